/-
  The walk of path.With. Condition: the path is within the reach; the key and the value are small.
-/
import Derived.Test.YtjebaibcfmjinaaPutLaw
import Derived.Test.YtjebaibcfmjinaaSortLay
import Derived.Test.YtjebaibcfmjinaaPathGet
import Derived.Test.YtjebaibcfmjinaaPathJoin
namespace Go.Proofs.Ytjebaibcfmjinaa
open Go.RowKit Go.Shelf Go.Lib Go.Sort

instance : Inhabited PKey := ⟨(ByteArray.empty, ByteArray.empty)⟩
abbrev kA (k : PKey) : Value := .string k.1
abbrev kB (k : PKey) : Value := .string k.2
theorem pairs_cells (ks : List PKey) : pairCells ks = cells2 kA kB ks := rfl
theorem compare_any (a b : ByteArray) (w : World) : Calls Try.prog 44 #[.string a, .string b] w fun e w' => e = .returned (.int .i64 (Lib.compareBytes a.data.toList b.data.toList)) ∧ w' = w := Go.Proofs.Any.strings_Compare cmpS a b w
theorem with1_any (x y : PKey) (W : World) : Calls Try.prog 43 #[.agg #[.string x.1, .string x.2], .agg #[.string y.1, .string y.2]] W fun e w' => e = .returned (.int .i64 (Lib.compareBytes x.1.data.toList y.1.data.toList)) ∧ ∃ q os', w' = grow (W.drewN q) os' := by
  have hcon := fun W' => compare_any x.1 y.1 W'
  generalize Lib.compareBytes x.1.data.toList y.1.data.toList = r at hcon ⊢
  go_enter Try.func43, Try.ntmps43
  go_wp2_with (go_at_call 44; refine (hcon _).mono ?_; rintro e w' ⟨rfl, rfl⟩)
  go_ret
  exact ⟨rfl, 0, _, by rw [alloc_eq_grow, alloc_eq_grow, grow_grow]; rfl⟩
theorem sortfunc_any (g c : Nat) (d : Array PKey) (w : World) (hH : HoldsK (fun k => [kA k, kB k]) 2 w g 0 d) (hg : g < w.heap.size) (hd : d.size ≤ 1000000) :
    Calls Try.prog 42 #[.slice (some ⟨g, 0, none⟩) d.size c, .func (.func 43) #[] #[]] w fun e w' => e = .returned (.tuple #[]) ∧
      ∃ d' n os, PermIn 0 d.size d d' ∧ SortedIn (fun x y : PKey => Op.bytesLess x.1.toList y.1.toList) 0 d.size d' ∧ w' = sortWorldK (fun k : PKey => [kA k, kB k]) 2 w g 0 n d' os := by
  have hlt : (ltOf fun x y : PKey => Lib.compareBytes x.1.data.toList y.1.data.toList) = fun x y : PKey => Op.bytesLess x.1.toList y.1.toList := by
    funext x y
    rw [Lib.toList_data, Lib.toList_data, ← cb_less]
    rfl
  have eg : ∀ args w, (callFunc 43 args).run Try.prog w = .ok (.enter 43 args) w := enters_of Try.func43 (by kernel_rfl) rfl
  have hcon := AnyQ.slices_SortFunc sortP 2 Try.isAgg51 Try.sizeOf51 (fun k : PKey => [kA k, kB k]) (fun _ => rfl) (fun x v hv => by simp at hv; rcases hv with rfl | rfl <;> rfl) (fun x y : PKey => Lib.compareBytes x.1.data.toList y.1.data.toList)
    (by rw [hlt]; exact bl_swo _) 43 #[] g 0 c d w eg (fun _ _ _ _ x y => with1_any x y _) hH hg (by omega)
  rw [hlt] at hcon
  exact hcon
theorem own_spot {w : World} {base : Nat} {e : TypeId} {size n m c : Nat} {A : Option Addr} {xs : List Value} (h : w.ownsRow base e size (.slice A m c) n xs) (hn : 0 < n) : ∃ g, A = some ⟨g, 0, none⟩ ∧ base ≤ g ∧ g < w.heap.size := by
  obtain ⟨g, cap, hv, h1, h2⟩ := h.form hn
  cases hv
  exact ⟨g, rfl, h1, h2⟩
/-- Where the keys of step i turn, the other rows stay. -/
theorem keys_stay {w W : World} {base : Nat} {v : Value} {l : List PStep} {vs : List Value} {i : Nat} {kv : Value} (hI : StepsIn w base v l vs) (hkv : vs[i]? = some kv) (hg : w.grownBy W kv.ownBlock) {j : Nat} (hji : j ≠ i) {st : PStep} {kj : Value} (hst : l[j]? = some st) (hj : vs[j]? = some kj) :
    W.ownsRow base 51 2 kj st.2.length (pairCells st.2) := by
  refine (hI.2.2.1 j st kj hst hj).kept hg ?_
  cases h1 : kj.ownBlock with
  | none => exact .inl rfl
  | some a =>
    refine .inr fun e => ?_
    rcases Nat.lt_or_gt_of_ne hji with h | h
    · have := hI.2.2.2 j i a a kj kv h hj hkv h1 e.symm
      omega
    · have := hI.2.2.2 i j a a kv kj h hkv hj e.symm h1
      omega
theorem row_stays {w W : World} {base : Nat} {v : Value} {l : List PStep} {vs : List Value} {i : Nat} {kv : Value} {st : PStep} (hI : StepsIn w base v l vs) (hst : l[i]? = some st) (hkv : vs[i]? = some kv) (hg : w.grownBy W kv.ownBlock) : W.ownsRow base 40 2 v l.length (stepCells l vs) := by
  refine hI.2.1.kept hg ?_
  cases h1 : v.ownBlock with
  | none => exact .inl rfl
  | some a => exact .inr fun e => own_other hI.2.1 (hI.2.2.1 i st kv hst hkv) (by decide) a h1 e.symm
theorem front_stays {w W : World} {base n c : Nat} {A : Option Addr} {l : List PStep} {vs : List Value} {kv : Value} {st : PStep} (hI : StepsIn w base (.slice A l.length c) l vs) (hl : l.length = n + 1) (hst : l[n]? = some st) (hkv : vs[n]? = some kv) (hg : w.grownBy W kv.ownBlock) :
    StepsR W (.slice A n c) (l.take n) (vs.take n) := by
  obtain ⟨A', c', e, h1, h2, hr⟩ := own_form (row_stays hI hst hkv hg)
  cases e
  have hn : (l.take n).length = n := by rw [List.length_take]; omega
  refine ⟨A, c, by rw [hn], by omega, h2, ?_, by rw [List.length_take, List.length_take, hI.1], fun i st' kv' hi hj => ?_⟩
  · rw [hn, stepCells_take]
    exact hr.take (by omega)
  · rw [List.getElem?_take] at hi hj
    split at hi
    · rename_i hlt
      rw [if_pos hlt] at hj
      obtain ⟨A', c', rfl, a, b, hr'⟩ := own_form (keys_stay hI hkv hg (by omega) hi hj)
      exact ⟨A', c', rfl, a, b, hr'⟩
    · cases hi
theorem grown_trans {a b c : World} {row row' : Option Nat} (h : a.grownBy b row) (k : b.grownBy c row') (hr : ∀ i, row' = some i → row = some i ∨ a.heap.size ≤ i) : a.grownBy c row :=
  ⟨k.os.trans h.os, k.tape.trans h.tape, k.output.trans h.output, Nat.le_trans h.size k.size, fun i hi hne => (k.block i (Nat.lt_of_lt_of_le hi h.size) (fun e => by
    rcases hr i e.symm with h1 | h1
    · exact hne h1.symm
    · omega)).trans (h.block i hi hne)⟩
theorem grown_below {a b : World} (h : Below a.heap.size a b) (row : Option Nat) : a.grownBy b row := ⟨h.os, h.tape, h.output, h.size, fun i hi _ => h.block i hi⟩
theorem pairs_snoc (ks : List PKey) (x : PKey) : pairCells ks ++ [.string x.1, .string x.2] = cells2 kA kB (ks ++ [x]) := by simp [pairCells, cells2]
/-- A slice of one step. -/
theorem steps_one {w : World} {kv : Value} {st : PStep} (h : KeysAt w w.heap.size kv st.2) : StepsR (w.alloc (.cells #[.string st.1, kv] 40)) (.slice (some ⟨w.heap.size, 0, none⟩) 1 1) [st] [kv] := by
  have hr := reads_new w #[.string st.1, kv] 40 2 1 rfl
  refine ⟨_, 1, rfl, Nat.le_refl _, by decide, by simpa [stepCells] using hr, rfl, ?_⟩
  intro i x v hi hj
  match i with
  | 0 =>
    simp at hi hj
    subst hi hj
    exact h.more ((Below.refl _ _).alloc (Nat.le_refl _) _) (by simp)
  | i + 1 => simp at hi
/-- What With says. -/
def WithPost (p key value : ByteArray) (w : World) (en : Ending) (w' : World) : Prop := Below w.heap.size w w' ∧
  ((∃ e : Int, e ≠ 0 ∧ ((∃ y, parseM p = .error (e, y)) ∨ (parseM p = .ok [] ∧ e = 4)) ∧ en = .returned (.tuple #[.string ByteArray.empty, .int .i64 e])) ∨
   ∃ (l : List PStep) (k : Nat) (st : PStep), parseM p = .ok l ∧ l.length = k + 1 ∧ l[k]? = some st ∧
    en = .returned (.tuple #[.string (putS (putM (l.take k ++ [(st.1, putK st.2 (key, value))]))), .int .i64 (putE (putM (l.take k ++ [(st.1, putK st.2 (key, value))])))]))
set_option maxHeartbeats 8000000 in
set_option maxRecDepth 100000 in
theorem with_any (p key value : ByteArray) (w : World) (hs : p.size ≤ 140737488355328) (hk : key.size ≤ 1000000) (hv : value.size ≤ 1000000) :
    Calls Try.prog 23 #[.string p, .string key, .string value] w (WithPost p key value w) := by
  have HE := Lib.hid (fun W => ends_any p W hs)
  go_enter Try.func23, Try.ntmps23
  go_upto_region 2 with (go_at_call 41; go_loud (refine (HE.out _).mono ?_; rintro en w1 (⟨hB1, e, he, hE, rfl⟩ | ⟨hB1, l, vs, A, c, n, st, kv, hP, hl, hI, hst, hkv, rfl⟩)))
  · have he0 : (e == 0) = false := by rw [beq_eq_false_iff_ne]; exact he
    have HB := Lib.hid (show Below w.heap.size w (w1.alloc (.cells #[.string ByteArray.empty, .slice none 0 0] 40)) from hB1.alloc hB1.size _)
    have HX := Lib.hid (And.intro he hE)
    clear he hE
    go_wp2
    go_ret2
    exact ⟨HB.out, .inl ⟨e, HX.out.1, HX.out.2, rfl⟩⟩
  · have HP := Lib.hid hP
    have HL := Lib.hid hl
    have HST := Lib.hid hst
    have HKV := Lib.hid hkv
    have HI := Lib.hid hI
    have HB1 := Lib.hid hB1
    obtain ⟨ka, kc, rfl, hk1, hk2, hkr⟩ := own_form (hI.2.2.1 n st kv hst hkv)
    have HSM := Lib.hid (parseM_small hP)
    have HRI := Lib.hid (parse_rises hP st (List.mem_of_getElem? hst))
    have hkl : st.2.length ≤ 512 := (HSM.out.1 st (List.mem_of_getElem? hst)).2.1
    obtain ⟨sn, ks⟩ := st
    simp only at hkr hk1 hkl
    have hb34 : Below w1.heap.size w1 ((w1.alloc (.cells #[.string sn, .slice ka ks.length kc] 40)).alloc (.cells #[.string key, .string value] 51)) := ((Below.refl _ _).alloc (Nat.le_refl _) _).alloc (by simp) _
    have hKA : KeysAt w1 w1.heap.size (.slice ka ks.length kc) ks := ⟨ka, kc, rfl, hk1, hk2, hkr⟩
    have HKA := Lib.hid (hKA.more hb34 hb34.size)
    have hlb : 0 < ks.length → ∃ b, ka = some ⟨b, 0, none⟩ ∧ w.heap.size ≤ b ∧ b < w1.heap.size := fun h => own_spot (hI.2.2.1 n (sn, ks) _ hst hkv) h
    clear hP hl hst hkv hI hkr hKA
    rcases find_cases key ks with ⟨j, k, hj, hkk, ht⟩ | hno
    · have HF := Lib.hid (find_hit sn key _ ks _ HKA.out (by omega) hj hkk ht)
      have hjl : (j : Int) < (ks.length : Int) := by have := (List.getElem?_eq_some_iff.1 hj).1; omega
      obtain ⟨b, rfl, hbw, hb1⟩ := hlb (by omega)
      have HJ := Lib.hid (And.intro hj (And.intro hkk ht))
      clear hj hkk ht
      go_upto_region 7 with (go_at_call 40; go_loud (refine HF.out.mono ?_; rintro en w2 ⟨rfl, hB2⟩; have HB2 := Lib.hid hB2; clear hB2))
      have hBX := (((Blk.new w1 40 #[.string sn, .slice (some ⟨b, 0, none⟩) ks.length kc]).alloc (.cells #[.string key, .string value] 51)).below HB2.out (by simp; omega))
      have hBP := ((Blk.new (w1.alloc (.cells #[.string sn, .slice (some ⟨b, 0, none⟩) ks.length kc] 40)) 51 #[.string key, .string value]).below HB2.out (by simp))
      rw [World.size_alloc] at hBP
      have x1 : w2.cell? ⟨w1.heap.size, 1, none⟩ = some (.slice (some ⟨b, 0, none⟩) ks.length kc) := hBX.cell 1
      have y0 : w2.cell? ⟨w1.heap.size + 1, 0, none⟩ = some (.string key) := hBP.cell 0
      have y1 : w2.cell? ⟨w1.heap.size + 1, 1, none⟩ = some (.string value) := hBP.cell 1
      have HBX := Lib.hid hBX
      clear hBX hBP
      have hcap : w2.ownsRow w.heap.size 51 2 (.slice (some ⟨b, 0, none⟩) ks.length kc) ks.length (pairCells ks) := own_more (HI.out.2.2.1 n (sn, ks) _ HST.out HKV.out) (((((Below.refl _ w1).alloc (Nat.le_refl _) _).alloc (by simp) _).trans (HB2.out.mono (by simp; omega))))
      have fz := fun o => own_free hcap o
      have z0 := own_cell hcap _ _ (pairCells_at ks j k HJ.out.1).1
      have z1 := own_cell hcap _ _ (pairCells_at ks j k HJ.out.1).2
      have HCAP := Lib.hid hcap
      clear hcap
      have HL1 := Lib.hid (show (l.take n).length ≤ 400 by rw [List.length_take]; have := HSM.out.2.1; omega)
      have HS1 := Lib.hid (show ∀ st ∈ l.take n, StepSmall st from fun st h => ((HSM.out.1 st (List.mem_of_mem_take h)).small))
      have HS2 := Lib.hid (show ∀ st ∈ [(sn, putK ks (key, value))], StepSmall st from fun st h => by
        simp at h
        subst h
        have h0 := HSM.out.1 (sn, ks) (List.mem_of_getElem? HST.out)
        refine ⟨h0.small.1, by have := putK_len ks (key, value); show (putK ks (key, value)).length ≤ 10000; omega, fun x hx => ?_⟩
        rcases putK_mem ks (key, value) x hx with rfl | hx
        · exact ⟨hk, hv⟩
        · exact h0.small.2.2 x hx)
      go_upto_region 10 with (fail)
      obtain ⟨W4, hW4⟩ : ∃ W4, (w2.setCell ⟨b, j * 2, none⟩ (.string key)).setCell ⟨b, j * 2 + 1, none⟩ (.string value) = W4 := ⟨_, rfl⟩
      have hg4 : w1.grownBy W4 (some b) := by
        rw [← hW4]
        have h0 : Only b w1 w2 := (((Only.refl b w1).alloc _).alloc _).trans (Only.of_below HB2.out)
        exact (h0.setCell (.inl rfl) _).setCell (.inl rfl) _
      have HF4 := Lib.hid (front_stays HI.out HL.out HST.out HKV.out hg4)
      have HX4 := Lib.hid (show Blk W4 w1.heap.size 40 #[.string sn, .slice (some ⟨b, 0, none⟩) ks.length kc] from by rw [← hW4]; exact (HBX.out.far (by simp; omega) _).far (by simp; omega) _)
      have HB4 := Lib.hid (show Below w.heap.size w W4 from by rw [← hW4]; exact (((HB1.out.trans (((((Below.refl _ w1).alloc (Nat.le_refl _) _).alloc (by simp) _).trans (HB2.out.mono (by simp; omega))).mono HB1.out.size)).setCell (p := ⟨b, j * 2, none⟩) hbw _).setCell (p := ⟨b, j * 2 + 1, none⟩) hbw _))
      have ho4 := own_set (own_set HCAP.out (j * 2) (.string key)) (j * 2 + 1) (.string value)
      rw [hW4, show ((pairCells ks).set (j * 2) (.string key)).set (j * 2 + 1) (.string value) = pairCells (ks.set j (key, value)) from cells2_set kA kB ks j (key, value), ← putK_set ks (key, value) k j HRI.out HJ.out.1 HJ.out.2.1] at ho4
      have hlen : (putK ks (key, value)).length = ks.length := by rw [putK_set ks (key, value) k j HRI.out HJ.out.1 HJ.out.2.1]; simp
      have HK4 := Lib.hid (show KeysAt W4 W4.heap.size (.slice (some ⟨b, 0, none⟩) ks.length kc) (putK ks (key, value)) from by
        obtain ⟨A9, c9, e9, g1, g2, g3⟩ := own_form ho4
        cases e9
        exact ⟨_, kc, by rw [hlen], by omega, g2, by rw [hlen]; exact g3⟩)
      rw [hW4]
      clear hW4 hg4 ho4 x1 y0 y1 z0 z1 fz hlen
      have hPUT := (put_two _ _ (l.take n) [(sn, putK ks (key, value))] (vs.take n) [.slice (some ⟨b, 0, none⟩) ks.length kc] (W4.alloc (.cells #[.string sn, .slice (some ⟨b, 0, none⟩) ks.length kc] 40)) (HF4.out.more ((Below.refl _ _).alloc (Nat.le_refl _) _)) (steps_one (st := (sn, putK ks (key, value))) HK4.out) HS1.out HS2.out HL1.out (by simp))
      rw [World.size_alloc] at hPUT
      have HPUT := Lib.hid hPUT
      clear hPUT
      have HFIN := Lib.hid (show ∀ en W, PutPost (l.take n ++ [(sn, putK ks (key, value))]) ((W4.alloc (.cells #[.string sn, .slice (some ⟨b, 0, none⟩) ks.length kc] 40)).alloc (.cells #[.slice A n c, .slice (some ⟨W4.heap.size, 0, none⟩) 1 1] 32)) en W → en = .returned (.tuple #[.string (putS (putM (l.take n ++ [(sn, putK ks (key, value))]))), .int .i64 (putE (putM (l.take n ++ [(sn, putK ks (key, value))])))]) ∧ Below w.heap.size w W from fun en W ⟨h1, h2⟩ =>
        ⟨h1, ((HB4.out.alloc HB4.out.size _).alloc (by have := HB4.out.size; simp; omega) _).trans (h2.mono (by have := HB4.out.size; simp; omega))⟩)
      have q0 : W4.cell? ⟨w1.heap.size, 0, none⟩ = some (.string sn) := HX4.out.cell 0
      have q1 : W4.cell? ⟨w1.heap.size, 1, none⟩ = some (.slice (some ⟨b, 0, none⟩) ks.length kc) := HX4.out.cell 1
      go_wp2_with (go_at_call 33; go_loud (refine HPUT.out.mono ?_; intro en w5 h5; obtain ⟨rfl, hB5⟩ := HFIN.out _ _ h5; have HB5 := Lib.hid hB5; clear h5 hB5))
      go_ret2
      exact ⟨HB5.out, .inr ⟨l, n, (sn, ks), HP.out, HL.out, HST.out, rfl⟩⟩
    · have HF := Lib.hid (find_miss sn key _ ks _ HKA.out (by omega) hno)
      have HNO := Lib.hid hno
      clear hno
      go_upto_region 8 with (go_at_call 40; go_loud (refine HF.out.mono ?_; rintro en w2 ⟨rfl, hB2⟩; have HB2 := Lib.hid hB2; clear hB2))
      have hBX := (((Blk.new w1 40 #[.string sn, .slice ka ks.length kc]).alloc (.cells #[.string key, .string value] 51)).below HB2.out (by simp; omega))
      have hBP := ((Blk.new (w1.alloc (.cells #[.string sn, .slice ka ks.length kc] 40)) 51 #[.string key, .string value]).below HB2.out (by simp))
      rw [World.size_alloc] at hBP
      have x1 : w2.cell? ⟨w1.heap.size, 1, none⟩ = some (.slice ka ks.length kc) := hBX.cell 1
      have y0 : w2.cell? ⟨w1.heap.size + 1, 0, none⟩ = some (.string key) := hBP.cell 0
      have y1 : w2.cell? ⟨w1.heap.size + 1, 1, none⟩ = some (.string value) := hBP.cell 1
      have HBX := Lib.hid (hBX.alloc (.cells #[.string key, .string value] 51))
      have hb12 : Below w1.heap.size w1 w2 := ((((Below.refl _ w1).alloc (Nat.le_refl _) _).alloc (by simp) _).trans (HB2.out.mono (by simp; omega)))
      have HCAP := Lib.hid (show (w2.alloc (.cells #[.string key, .string value] 51)).ownsRow w.heap.size 51 2 (.slice ka ks.length kc) ks.length (pairCells ks) from (own_more (HI.out.2.2.1 n (sn, ks) _ HST.out HKV.out) hb12).alloc _)
      have HB12 := Lib.hid hb12
      have HRD := Lib.hid (reads_new w2 #[.string key, .string value] 51 2 1 rfl)
      have HBW2 := Lib.hid (show w.heap.size ≤ (w2.alloc (.cells #[.string key, .string value] 51)).heap.size by have := HB1.out.size; have := hb12.size; simp; omega)
      obtain ⟨i0, hi0, hz0, hz1, hz2⟩ := info_parts pair_info
      have HNE := Lib.hid (show some w1.heap.size ≠ (Value.slice ka ks.length kc).ownBlock from fun e => by have := (HI.out.2.2.1 n (sn, ks) _ HST.out HKV.out).lt _ e.symm; omega)
      clear hBX hBP hb12
      have HL1 := Lib.hid (show (l.take n).length ≤ 400 by rw [List.length_take]; have := HSM.out.2.1; omega)
      have HS1 := Lib.hid (show ∀ st ∈ l.take n, StepSmall st from fun st h => ((HSM.out.1 st (List.mem_of_mem_take h)).small))
      have HS2 := Lib.hid (show ∀ st ∈ [(sn, putK ks (key, value))], StepSmall st from fun st h => by
        simp at h
        subst h
        have h0 := HSM.out.1 (sn, ks) (List.mem_of_getElem? HST.out)
        refine ⟨h0.small.1, by have := putK_len ks (key, value); show (putK ks (key, value)).length ≤ 10000; omega, fun x hx => ?_⟩
        rcases putK_mem ks (key, value) x hx with rfl | hx
        · exact ⟨hk, hv⟩
        · exact h0.small.2.2 x hx)
      go_upto_region 9 with (at_builtin; go_loud (refine wpList_append_any _ rfl (.tmp 36) (.tmp 38) _ rfl w.heap.size 51 i0 _ 2 32 Try.underlying38 hi0 hz0 hz1 hz2 rfl (by omega) _ ks.length (pairCells ks) rfl HCAP.out (w2.heap.size + 1) (some ⟨w2.heap.size, 0, none⟩) 1 1 [.string key, .string value] rfl HRD.out (by simp [Value.oneCell']) (by simp only [maxLen]; omega) (by omega) HBW2.out ?_); intro v3 w3 hown3 hg3 hat3; obtain ⟨g, c3, rfl, hgb, hgl⟩ := hown3.form (by omega); have HO3 := Lib.hid hown3; have HG3 := Lib.hid (show (w2.alloc (.cells #[.string key, .string value] 51)).grownBy w3 (Value.slice ka ks.length kc).ownBlock from hg3); have HAT := Lib.hid (show (Value.slice (some ⟨g, 0, none⟩) (ks.length + 1) c3).ownBlock = (Value.slice ka ks.length kc).ownBlock ∨ (Value.slice (some ⟨g, 0, none⟩) (ks.length + 1) c3).ownBlock = some (w2.alloc (.cells #[.string key, .string value] 51)).heap.size from hat3); have HG := Lib.hid (And.intro hgb hgl); have hb3 := HBX.out.grown hg3 HNE.out; have q1 := hb3.cell 1; have f1 := hb3.frozen 1; have HB3 := Lib.hid hb3; clear hb3; clear hown3 hg3 hat3 hgb hgl)
      have hgr : g ≠ w1.heap.size := by
        intro e
        rcases HAT.out with h | h
        · exact HNE.out (by rw [← h, ← e]; rfl)
        · have := HB12.out.size
          simp [Value.ownBlock] at h
          omega
      have HGR := Lib.hid hgr
      obtain ⟨W6, hW6⟩ : ∃ W6, w3.setCell ⟨w1.heap.size, 1, none⟩ (.slice (some ⟨g, 0, none⟩) (ks.length + 1) c3) = W6 := ⟨_, rfl⟩
      have h36 : w3.grownBy W6 (some w1.heap.size) := by rw [← hW6]; exact (Only.refl w1.heap.size w3).setCell (.inl rfl) _
      have hb6 : Blk W6 w1.heap.size 40 #[.string sn, .slice (some ⟨g, 0, none⟩) (ks.length + 1) c3] := by rw [← hW6]; exact HB3.out.set_ 1 _
      have ho6 : W6.ownsRow w.heap.size 51 2 (.slice (some ⟨g, 0, none⟩) (ks ++ [(key, value)]).toArray.size c3) (ks ++ [(key, value)]).toArray.size (cells2 kA kB (ks ++ [(key, value)]).toArray.toList) := by
        have h := HO3.out.kept h36 (.inr (by simp [Value.ownBlock]; exact hgr))
        rw [pairs_snoc ks (key, value)] at h
        simpa using h
      have hh6 := own_holds ho6 (by simp)
      have hg16 : w1.grownBy W6 (Value.slice ka ks.length kc).ownBlock :=
        grown_trans (grown_trans (grown_below (HB12.out.alloc HB12.out.size _) _) HG3.out (fun i e => .inl e)) h36 (fun i e => by cases e; exact .inr (Nat.le_refl _))
      have HSO := Lib.hid (sortfunc_any g c3 (ks ++ [(key, value)]).toArray W6 hh6.1 hh6.2.1 (by simp; omega))
      have hsz : (ks ++ [(key, value)]).toArray.size = ks.length + 1 := by simp
      rw [hsz] at HSO ho6
      have HO6 := Lib.hid ho6
      have HB6 := Lib.hid hb6
      have HG16 := Lib.hid hg16
      have x6 : W6.cell? ⟨w1.heap.size, 1, none⟩ = some (.slice (some ⟨g, 0, none⟩) (ks.length + 1) c3) := hb6.cell 1
      have HBW6 := Lib.hid (show Below w.heap.size w W6 from by
        have h3 : Below w.heap.size w w3 := ((HB1.out.trans (HB12.out.mono HB1.out.size)).alloc (by have := HB1.out.size; have := HB12.out.size; omega) _).grown HG3.out HBW2.out (fun k hk => ((HI.out.2.2.1 n (sn, ks) _ HST.out HKV.out).lt k hk).1)
        rw [← hW6]
        exact h3.setCell (p := ⟨w1.heap.size, 1, none⟩) HB1.out.size _)
      rw [hW6]
      clear hW6 h36 hb6 ho6 hh6 hg16 hsz hgr q1 f1 x1 y0 y1
      go_upto_region 10 with (go_at_call 42; go_loud (refine HSO.out.mono ?_; rintro en w7 ⟨rfl, d', m7, os7, hpm, hsd, hw7⟩; have HPM := Lib.hid hpm; have HSD := Lib.hid hsd; have HW7 := Lib.hid hw7; clear hpm hsd hw7))
      obtain ⟨W4, hW4⟩ : ∃ W4, w7 = W4 := ⟨_, rfl⟩
      subst hW4
      obtain ⟨hd1, hd2⟩ := sorts_to (fun x y : PKey => Op.bytesLess x.1.toList y.1.toList) (ks ++ [(key, value)]).toArray d' (putK ks (key, value)) (by rw [show (ks ++ [(key, value)]).toArray.size = ks.length + 1 by simp]; exact HPM.out) (by rw [show (ks ++ [(key, value)]).toArray.size = ks.length + 1 by simp]; exact HSD.out) (by simpa using putK_perm ks (key, value) HNO.out) (putK_rises ks (key, value) HRI.out)
      have hd3 : d'.size = ks.length + 1 := by rw [hd2]; simp
      have hlen : (putK ks (key, value)).length = ks.length + 1 := by rw [← hd1, Array.length_toList, hd3]
      have ho4 := own_sorted (a := kA) (b := kB) HO6.out hd3 m7 os7
      rw [← HW7.out, hd1] at ho4
      have hg67 : W6.grownBy w7 (some g) := by rw [HW7.out]; exact sortWorldK_grown _ _ _ _ _ _ _
      have hg4 : w1.grownBy w7 (Value.slice ka ks.length kc).ownBlock := grown_trans HG16.out hg67 (fun i e => by
        cases e
        rcases HAT.out with h | h
        · exact .inl h.symm
        · have := HB12.out.size
          simp [Value.ownBlock] at h
          exact .inr (by omega))
      have HF4 := Lib.hid (front_stays HI.out HL.out HST.out HKV.out hg4)
      have HX4 := Lib.hid (show Blk w7 w1.heap.size 40 #[.string sn, .slice (some ⟨g, 0, none⟩) (ks.length + 1) c3] from HB6.out.grown hg67 (fun e => HGR.out (by cases e; rfl)))
      have HB4 := Lib.hid (show Below w.heap.size w w7 from HBW6.out.grown hg67 HBW6.out.size (fun k hk => by cases hk; exact HG.out.1))
      have HK4 := Lib.hid (show KeysAt w7 w7.heap.size (.slice (some ⟨g, 0, none⟩) (ks.length + 1) c3) (putK ks (key, value)) from by
        obtain ⟨A9, c9, e9, g1, g2, g3⟩ := own_form ho4
        cases e9
        exact ⟨_, c3, by rw [hlen], by omega, g2, by rw [hlen]; exact g3⟩)
      clear hg67 hg4 ho4 hlen hd1 hd2 hd3 x6
      have hPUT := (put_two _ _ (l.take n) [(sn, putK ks (key, value))] (vs.take n) [.slice (some ⟨g, 0, none⟩) (ks.length + 1) c3] (w7.alloc (.cells #[.string sn, .slice (some ⟨g, 0, none⟩) (ks.length + 1) c3] 40)) (HF4.out.more ((Below.refl _ _).alloc (Nat.le_refl _) _)) (steps_one (st := (sn, putK ks (key, value))) HK4.out) HS1.out HS2.out HL1.out (by simp))
      rw [World.size_alloc] at hPUT
      have HPUT := Lib.hid hPUT
      clear hPUT
      have HFIN := Lib.hid (show ∀ en W, PutPost (l.take n ++ [(sn, putK ks (key, value))]) ((w7.alloc (.cells #[.string sn, .slice (some ⟨g, 0, none⟩) (ks.length + 1) c3] 40)).alloc (.cells #[.slice A n c, .slice (some ⟨w7.heap.size, 0, none⟩) 1 1] 32)) en W → en = .returned (.tuple #[.string (putS (putM (l.take n ++ [(sn, putK ks (key, value))]))), .int .i64 (putE (putM (l.take n ++ [(sn, putK ks (key, value))])))]) ∧ Below w.heap.size w W from fun en W ⟨h1, h2⟩ =>
        ⟨h1, ((HB4.out.alloc HB4.out.size _).alloc (by have := HB4.out.size; simp; omega) _).trans (h2.mono (by have := HB4.out.size; simp; omega))⟩)
      have q0 : w7.cell? ⟨w1.heap.size, 0, none⟩ = some (.string sn) := HX4.out.cell 0
      have q1 : w7.cell? ⟨w1.heap.size, 1, none⟩ = some (.slice (some ⟨g, 0, none⟩) (ks.length + 1) c3) := HX4.out.cell 1
      go_wp2_with (go_at_call 33; go_loud (refine HPUT.out.mono ?_; intro en w5 h5; obtain ⟨rfl, hB5⟩ := HFIN.out _ _ h5; have HB5 := Lib.hid hB5; clear h5 hB5))
      go_ret2
      exact ⟨HB5.out, .inr ⟨l, n, (sn, ks), HP.out, HL.out, HST.out, rfl⟩⟩
end Go.Proofs.Ytjebaibcfmjinaa
