/-
  The walks of the document's Put and Take. Condition: at most 1000000 keys.
-/
import Derived.Test.YtjebaibcfmjinaaPathWith
import Derived.RegionTactic
namespace Go.Proofs.Ytjebaibcfmjinaa
open Go.RowKit

/-- A step that is being made: its box r7, its keys' row; the result's box r6. -/
def MakeX (w : World) (base r6 r7 : Nat) (nm : ByteArray) (out : List PKey) (v : Value) (W : World) : Prop :=
  Blk W r6 40 #[.string ⟨#[]⟩, .slice none 0 0] ∧ Blk W r7 40 #[.string nm, v] ∧ W.ownsRow base 51 2 v out.length (pairCells out) ∧ Below base w W ∧ base ≤ W.heap.size ∧ base ≤ r7
section
variable {w W : World} {base r6 r7 : Nat} {nm : ByteArray} {out : List PKey} {v : Value}
theorem MakeX.alloc (h : MakeX w base r6 r7 nm out v W) (o : Obj) : MakeX w base r6 r7 nm out v (W.alloc o) :=
  ⟨h.1.alloc o, h.2.1.alloc o, h.2.2.1.alloc o, h.2.2.2.1.alloc h.2.2.2.2.1 o, by have := h.2.2.2.2.1; simp; omega, h.2.2.2.2.2⟩
theorem MakeX.box (h : MakeX w base r6 r7 nm out v W) : W.cell? ⟨r7, 0, none⟩ = some (.string nm) ∧ W.cell? ⟨r7, 1, none⟩ = some v ∧ W.frozen? ⟨r7, 1, none⟩ = false := ⟨h.2.1.cell 0, h.2.1.cell 1, h.2.1.frozen 1⟩
theorem MakeX.grown {W3 : World} {v' : Value} {xs : List Value} (h : MakeX w base r6 r7 nm out v W) (hg : W.grownBy W3 v.ownBlock) (_ho : W3.ownsRow base 51 2 v' (out.length + 1) xs) :
    W3.cell? ⟨r7, 1, none⟩ = some v ∧ W3.frozen? ⟨r7, 1, none⟩ = false ∧ W3.cell? ⟨r7, 0, none⟩ = some (.string nm) := by
  have hb := h.2.1.grown hg (fun e => own_blk h.2.2.1 h.2.1 (by decide) e.symm rfl)
  exact ⟨hb.cell 1, hb.frozen 1, hb.cell 0⟩
theorem MakeX.more {W3 : World} {v' : Value} {x : PKey} (h : MakeX w base r6 r7 nm out v W) (h67 : r6 ≠ r7) (hg : W.grownBy W3 v.ownBlock) (ho : W3.ownsRow base 51 2 v' (out.length + 1) (pairCells out ++ [.string x.1, .string x.2])) :
    MakeX w base r6 r7 nm (out ++ [x]) v' (W3.setCell ⟨r7, 1, none⟩ v') := by
  have h6 := h.1.grown hg (fun e => own_blk h.2.2.1 h.1 (by decide) e.symm rfl)
  have h7 := h.2.1.grown hg (fun e => own_blk h.2.2.1 h.2.1 (by decide) e.symm rfl)
  have hB : Below base w W3 := h.2.2.2.1.grown hg h.2.2.2.2.1 (fun k hk => (h.2.2.1.lt k hk).1)
  refine ⟨h6.far h67 _, h7.set_ 1 v', ?_, hB.setCell (p := ⟨r7, 1, none⟩) h.2.2.2.2.2 _, by have := h.2.2.2.2.1; have := hg.size; simp [World.setCell]; omega, h.2.2.2.2.2⟩
  have hk := ho.kept ((Only.refl r7 W3).setCell (p := ⟨r7, 1, none⟩) (.inl rfl) v') (by
    cases hv : v'.ownBlock with
    | none => exact .inl rfl
    | some g => exact .inr fun e => own_blk ho h7 (by decide) hv (by cases e; rfl))
  rw [pairs_snoc] at hk
  rw [List.length_append]
  exact hk
end
theorem mput_result {tmps : Array Value} {w : World} {r0 : Nat} {nm : ByteArray} {v : Value} (hB : Blk w r0 40 #[.string nm, v]) (hp : tmps.getD 6 undef = .pointer (some ⟨r0, 0, none⟩)) :
    (results Try.f25 tmps).run Try.prog w = .ok (.agg #[.string nm, v]) w :=
  results_row Try.results25 tmps w r0 40 #[.string nm, v] _ hp hB Try.underlying40 rfl step_info
/-- What a return reads and writes. -/
theorem MakeX.ret {w W : World} {base r6 r7 : Nat} {nm : ByteArray} {out : List PKey} {v : Value} (h : MakeX w base r6 r7 nm out v W) :
    W.cell? ⟨r6, 0, none⟩ = some (.string ⟨#[]⟩) ∧ W.cell? ⟨r6, 1, none⟩ = some (.slice none 0 0) ∧ W.frozen? ⟨r6, 0, none⟩ = false ∧ W.frozen? ⟨r6, 1, none⟩ = false ∧ (W.setCell ⟨r6, 0, none⟩ (.string nm)).cell? ⟨r6, 1, none⟩ = some (.slice none 0 0) ∧ (W.setCell ⟨r6, 0, none⟩ (.string nm)).frozen? ⟨r6, 1, none⟩ = false :=
  ⟨h.1.cell 0, h.1.cell 1, h.1.frozen 0, h.1.frozen 1, (h.1.set_ 0 _).cell 1, (h.1.set_ 0 _).frozen 1⟩
theorem MakeX.done {w W : World} {base r6 r7 : Nat} {nm : ByteArray} {out : List PKey} {v : Value} (h : MakeX w base r6 r7 nm out v W) (h6 : base ≤ r6) :
    Blk ((W.setCell ⟨r6, 0, none⟩ (.string nm)).setCell ⟨r6, 1, none⟩ v) r6 40 #[.string nm, v] ∧ ((W.setCell ⟨r6, 0, none⟩ (.string nm)).setCell ⟨r6, 1, none⟩ v).ownsRow base 51 2 v out.length (pairCells out) ∧ Below base w ((W.setCell ⟨r6, 0, none⟩ (.string nm)).setCell ⟨r6, 1, none⟩ v) :=
  ⟨(h.1.set_ 0 _).set_ 1 _, h.2.2.1.kept (((Only.refl r6 W).setCell (p := ⟨r6, 0, none⟩) (.inl rfl) _).setCell (p := ⟨r6, 1, none⟩) (.inl rfl) _) (by
    cases hv : v.ownBlock with
    | none => exact .inl rfl
    | some g => exact .inr fun e => own_blk h.2.2.1 h.1 (by decide) hv (by cases e; rfl)), (h.2.2.2.1.setCell (p := ⟨r6, 0, none⟩) h6 _).setCell (p := ⟨r6, 1, none⟩) h6 _⟩
def RPutPost (st : PStep) (key value : ByteArray) (w : World) (en : Ending) (w' : World) : Prop := ∃ v, en = .returned (.agg #[.string st.1, v]) ∧
  w'.ownsRow w.heap.size 51 2 v (refPut false st.2 (key, value)).length (pairCells (refPut false st.2 (key, value))) ∧ Below w.heap.size w w'
theorem refPut_at {d : Bool} {ks : List PKey} {p : Nat} {x k : PKey} (h : ks[p]? = some x) : refPut d (ks.drop p) k =
    (if !d && !(Op.bytesLess x.1.toList k.1.toList) then [k] else []) ++ ((if x.1 = k.1 then [] else [x]) ++ refPut (d || !(Op.bytesLess x.1.toList k.1.toList)) (ks.drop (p + 1)) k) := by
  obtain ⟨hlt, rfl⟩ := List.getElem?_eq_some_iff.1 h
  rw [List.drop_eq_getElem_cons hlt]
  rfl
/-- Where Put's loop is. -/
def RPutAt (w : World) (base r6 r7 : Nat) (nm : ByteArray) (ks : List PKey) (k : PKey) (p : Nat) (d : Bool) (W : World) : Prop :=
  ∃ out v, MakeX w base r6 r7 nm out v W ∧ p ≤ ks.length ∧ out.length ≤ 2 * p ∧ refPut false ks k = out ++ refPut d (ks.drop p) k
set_option maxHeartbeats 16000000 in
set_option maxRecDepth 100000 in
theorem rput_any (st : PStep) (key value : ByteArray) (v : Value) (w : World) (hk : KeysAt w w.heap.size v st.2) (hs : st.2.length ≤ 1000000) :
    Calls Try.prog 25 #[.agg #[.string st.1, v], .string key, .string value] w (RPutPost st key value w) := by
  obtain ⟨A, c, rfl, hkc, hcm, hRd⟩ := hk
  obtain ⟨nm, ks⟩ := st
  simp only at hkc hRd hs ⊢
  generalize hlen : ks.length = n at *
  have HLEN := Lib.hid hlen
  have hn1 : (n : Int) ≤ 1000000 := by omega
  have HRd := Lib.hid hRd
  have hm0 : MakeX w w.heap.size (w.heap.size + 1) (w.heap.size + 1 + 1) nm [] (.slice none 0 0) (((w.alloc (.cells #[.string nm, .slice A n c] 40)).alloc (.cells #[.string ⟨#[]⟩, .slice none 0 0] 40)).alloc (.cells #[.string nm, .slice none 0 0] 40)) := by
    refine ⟨?_, ?_, World.ownsRow_nil _ _ _ _, (((Below.refl _ w).alloc (Nat.le_refl _) _).alloc (by simp) _).alloc (by simp; omega) _, by simp; omega, by omega⟩
    · have := (Blk.new (w.alloc (.cells #[.string nm, .slice A n c] 40)) 40 #[.string ⟨#[]⟩, .slice none 0 0]).alloc (.cells #[.string nm, .slice none 0 0] 40)
      simpa using this
    · have := Blk.new ((w.alloc (.cells #[.string nm, .slice A n c] 40)).alloc (.cells #[.string ⟨#[]⟩, .slice none 0 0] 40)) 40 #[.string nm, .slice none 0 0]
      simpa using this
  have HM0 := Lib.hid hm0
  clear hlen hRd hm0
  obtain ⟨i0, hi0, hz0, hz1, hz2⟩ := info_parts pair_info
  go_enter Try.func25, Try.ntmps25
  go_wp2
  generalize (((w.alloc (.cells #[.string nm, .slice A n c] 40)).alloc (.cells #[.string ⟨#[]⟩, .slice none 0 0] 40)).alloc (.cells #[.string nm, .slice none 0 0] 40)) = wA at *
  have h67 : w.heap.size + 1 ≠ w.heap.size + 1 + 1 := by omega
  have h6b : w.heap.size ≤ w.heap.size + 1 := by omega
  have H67 := Lib.hid (And.intro h67 h6b)
  clear h67 h6b
  generalize hr7 : w.heap.size + 1 + 1 = r7 at *
  generalize hr6 : w.heap.size + 1 = r6 at *
  clear hr7 hr6
  go_loopw [8, 10, 17] (fun dv _ iv wr => ∃ (p : Nat) (d : Bool), iv = .int .i64 (p : Int) ∧ dv = .bool d ∧ RPutAt w w.heap.size r6 r7 nm ks (key, value) p d wr) (fun _ _ iv _ => n - (Lib.intOf iv).toNat)
  case atStart => exact ⟨0, false, rfl, rfl, [], _, HM0.out, Nat.zero_le _, Nat.zero_le _, rfl⟩
  case round =>
    obtain ⟨p, d, rfl, rfl, out, v, hM, hp, hol, hE⟩ := hrel
    obtain ⟨A7, c7, rfl, -, -, -⟩ := own_form hM.2.2.1
    have HE := Lib.hid hE
    have HM := Lib.hid hM
    have HOL := Lib.hid hol
    clear hE hM hol
    by_cases hlt : p < n
    · obtain ⟨x, hx⟩ : ∃ x, ks[p]? = some x := ⟨ks[p]'(by rw [HLEN.out]; exact hlt), by simp [HLEN.out, hlt]⟩
      have hq1 : (p : Int) < (n : Int) := by omega
      obtain ⟨b, o, rfl, hbo, hcells⟩ := (HRd.out.below HM.out.2.2.2.1).spot (by omega) (by omega)
      have hat := pairCells_at ks p x hx
      have r0 := hcells _ _ hat.1
      have r1 : wr.cell? ⟨b, o + p * 2 + 1, none⟩ = some (.string x.2) := hcells _ _ hat.2
      have HN := Lib.hid (HE.out.trans (congrArg (out ++ ·) (refPut_at (d := d) (k := (key, value)) hx)))
      have HPX := Lib.hid (Blk.new wr 51 #[.string x.1, .string x.2])
      have HM1 := Lib.hid (HM.out.alloc (.cells #[.string x.1, .string x.2] 51))
      have HOL2 := Lib.hid (show out.length ≤ 2000000 by have := HOL.out; omega)
      have HNK := Lib.hid (show ∀ k, (Value.slice A7 out.length c7).ownBlock = some k → k < wr.heap.size from fun k hk => (HM.out.2.2.1.lt k hk).2)
      have hpl : p + 1 ≤ ks.length := by rw [HLEN.out]; exact hlt
      have HPL := Lib.hid hpl
      go_upto_region 6 with (fail)
      clear hcells hat hx hpl r0 r1
      generalize (wr.alloc (.cells #[.string x.1, .string x.2] 51)) = W1 at *
      generalize wr.heap.size = kb at *
      obtain ⟨b0, b1, b2⟩ := HM1.out.box
      have k0 : W1.cell? ⟨kb, 0, none⟩ = some (.string x.1) := HPX.out.cell 0
      have k1 : W1.cell? ⟨kb, 1, none⟩ = some (.string x.2) := HPX.out.cell 1
      obtain ⟨nw, hnw⟩ : ∃ nw : PKey, nw = (key, value) := ⟨_, rfl⟩
      have hbt := bl_total x.1.toList key.toList
      have hbt2 := bl_total key.toList x.1.toList
      have HN9 := HN.out
      by_cases he : x.1 = key
      · have hl1 : Op.bytesLess x.1.toList key.toList = false := by rw [he]; exact bl_irr _
        have hl2 : Op.bytesLess key.toList x.1.toList = false := by rw [he]; exact bl_irr _
        have he1 : (x.1.toList == key.toList) = true := by simp [he]
        have he2 : (key.toList == x.1.toList) = true := by simp [he]
        rw [if_pos he, hl1] at HN9
        have HE2 := Lib.hid he
        clear he hbt hbt2
        cases d
        · simp only [Bool.not_false, Bool.and_self, if_true, Bool.or_true, List.nil_append] at HN9
          have HN2 := Lib.hid HN9
          clear HN9 hnw
          have HAL := Lib.hid (HM1.out.alloc (.cells #[.string ((key, value) : PKey).1, .string ((key, value) : PKey).2] 51))
          have HAO := Lib.hid HAL.out.2.2.1
          have HAR := Lib.hid (reads_new W1 #[.string ((key, value) : PKey).1, .string ((key, value) : PKey).2] 51 2 1 rfl)
          have HAB := Lib.hid HAL.out.2.2.2.2.1
          go_upto_region 8 with (at_builtin; go_loud (refine wpList_append_any _ rfl (.tmp 30) (.tmp 34) _ rfl w.heap.size 51 i0 _ 2 32 Try.underlying38 hi0 hz0 hz1 hz2 rfl (by omega) _ (out).length (pairCells (out)) rfl HAO.out (W1.heap.size + 1) (some ⟨W1.heap.size, 0, none⟩) 1 1 [.string ((key, value) : PKey).1, .string ((key, value) : PKey).2] rfl HAR.out (by simp [Value.oneCell']) (by have := HOL2.out; (try simp only [List.length_append, List.length_cons, List.length_nil]); simp only [maxLen]; omega) (by have := HOL2.out; (try simp only [List.length_append, List.length_cons, List.length_nil]); omega) HAB.out ?_); intro v3 w3 hown3 hg3 hat3; obtain ⟨A3, c3, rfl, -, -, -⟩ := own_form hown3; have hg3' : (W1.alloc (.cells #[.string ((key, value) : PKey).1, .string ((key, value) : PKey).2] 51)).grownBy w3 (Value.slice A7 out.length c7).ownBlock := hg3; obtain ⟨q3, f3, q3'⟩ := HAL.out.grown hg3' hown3; have HM3 := Lib.hid (HAL.out.more (x := ((key, value) : PKey)) H67.out.1 hg3' hown3); have HKR := Lib.hid (show kb ≠ r7 from fun e => by subst e; have h1 := HPX.out; have h2 := HM1.out.2.1; unfold Blk at h1 h2; rw [h1] at h2; cases h2); have HKB3 := Lib.hid ((HPX.out.alloc (.cells #[.string ((key, value) : PKey).1, .string ((key, value) : PKey).2] 51)).grown hg3' (fun e => by have := HNK.out _ e.symm; omega)); clear hown3 hg3 hg3' hat3)
          obtain ⟨W3, hW3⟩ : ∃ W3, w3.setCell ⟨r7, 1, none⟩ (.slice A3 (out.length + 1) c3) = W3 := ⟨_, rfl⟩
          have HP3 := Lib.hid (show Blk W3 kb 51 #[.string x.1, .string x.2] from by rw [← hW3]; exact HKB3.out.far HKR.out _)
          have HM4 := Lib.hid (show MakeX w w.heap.size r6 r7 nm (out ++ [(key, value)]) (.slice A3 (out.length + 1) c3) W3 from by rw [← hW3]; exact HM3.out)
          rw [hW3]
          clear hW3 q3 f3 q3' b0 b1 b2 k0 k1
          obtain ⟨b0, b1, b2⟩ := HM4.out.box
          have k0 : W3.cell? ⟨kb, 0, none⟩ = some (.string x.1) := HP3.out.cell 0
          have k1 : W3.cell? ⟨kb, 1, none⟩ = some (.string x.2) := HP3.out.cell 1
          go_wp2
          go_roundw
          case rel => exact ⟨p + 1, true, by go_num, rfl, out ++ [(key, value)], _, HM4.out, HPL.out, by have := HOL.out; simp; omega, by rw [List.append_assoc]; exact HN2.out⟩
          case measure => simp [Lib.intOf]; omega
        · simp only [Bool.not_true, Bool.false_and, Bool.true_or, List.nil_append] at HN9
          have HN2 := Lib.hid HN9
          clear HN9 hnw
          go_wp2
          go_roundw
          case rel => exact ⟨p + 1, true, by go_num, rfl, out, _, HM1.out, HPL.out, by have := HOL.out; omega, by simpa using HN2.out⟩
          case measure => simp [Lib.intOf]; omega
      · have he1 : (x.1.toList == key.toList) = false := by rw [ba_beq]; simp [he]
        have he2 : (key.toList == x.1.toList) = false := by rw [ba_beq, decide_eq_false_iff_not]; exact fun e => he e.symm
        have he3 : ¬ x.1.toList = key.toList := fun e => he (ba_ext e)
        rw [if_neg he] at HN9
        have HE2 := Lib.hid he
        clear he
        cases d
        · cases hl1 : Op.bytesLess x.1.toList key.toList
          · have hl2 : Op.bytesLess key.toList x.1.toList = true := by
              rw [hl1, he1] at hbt
              cases h : Op.bytesLess key.toList x.1.toList
              · rw [h] at hbt; cases hbt
              · rfl
            simp only [hl1, Bool.not_false, Bool.and_self, if_true, Bool.or_true] at HN9
            have HN2 := Lib.hid HN9
            clear HN9 hbt hbt2 hnw
            have HAL := Lib.hid (HM1.out.alloc (.cells #[.string ((key, value) : PKey).1, .string ((key, value) : PKey).2] 51))
            have HAO := Lib.hid HAL.out.2.2.1
            have HAR := Lib.hid (reads_new W1 #[.string ((key, value) : PKey).1, .string ((key, value) : PKey).2] 51 2 1 rfl)
            have HAB := Lib.hid HAL.out.2.2.2.2.1
            go_upto_region 8 with (at_builtin; go_loud (refine wpList_append_any _ rfl (.tmp 30) (.tmp 34) _ rfl w.heap.size 51 i0 _ 2 32 Try.underlying38 hi0 hz0 hz1 hz2 rfl (by omega) _ (out).length (pairCells (out)) rfl HAO.out (W1.heap.size + 1) (some ⟨W1.heap.size, 0, none⟩) 1 1 [.string ((key, value) : PKey).1, .string ((key, value) : PKey).2] rfl HAR.out (by simp [Value.oneCell']) (by have := HOL2.out; (try simp only [List.length_append, List.length_cons, List.length_nil]); simp only [maxLen]; omega) (by have := HOL2.out; (try simp only [List.length_append, List.length_cons, List.length_nil]); omega) HAB.out ?_); intro v3 w3 hown3 hg3 hat3; obtain ⟨A3, c3, rfl, -, -, -⟩ := own_form hown3; have hg3' : (W1.alloc (.cells #[.string ((key, value) : PKey).1, .string ((key, value) : PKey).2] 51)).grownBy w3 (Value.slice A7 out.length c7).ownBlock := hg3; obtain ⟨q3, f3, q3'⟩ := HAL.out.grown hg3' hown3; have HM3 := Lib.hid (HAL.out.more (x := ((key, value) : PKey)) H67.out.1 hg3' hown3); have HKR := Lib.hid (show kb ≠ r7 from fun e => by subst e; have h1 := HPX.out; have h2 := HM1.out.2.1; unfold Blk at h1 h2; rw [h1] at h2; cases h2); have HKB3 := Lib.hid ((HPX.out.alloc (.cells #[.string ((key, value) : PKey).1, .string ((key, value) : PKey).2] 51)).grown hg3' (fun e => by have := HNK.out _ e.symm; omega)); clear hown3 hg3 hg3' hat3)
            obtain ⟨W3, hW3⟩ : ∃ W3, w3.setCell ⟨r7, 1, none⟩ (.slice A3 (out.length + 1) c3) = W3 := ⟨_, rfl⟩
            have HP3 := Lib.hid (show Blk W3 kb 51 #[.string x.1, .string x.2] from by rw [← hW3]; exact HKB3.out.far HKR.out _)
            have HM4 := Lib.hid (show MakeX w w.heap.size r6 r7 nm (out ++ [(key, value)]) (.slice A3 (out.length + 1) c3) W3 from by rw [← hW3]; exact HM3.out)
            rw [hW3]
            clear hW3 q3 f3 q3' b0 b1 b2 k0 k1
            obtain ⟨b0, b1, b2⟩ := HM4.out.box
            have k0 : W3.cell? ⟨kb, 0, none⟩ = some (.string x.1) := HP3.out.cell 0
            have k1 : W3.cell? ⟨kb, 1, none⟩ = some (.string x.2) := HP3.out.cell 1
            have HAL := Lib.hid (HM4.out.alloc (.cells #[.string x.1, .string x.2] 51))
            have HAO := Lib.hid HAL.out.2.2.1
            have HAR := Lib.hid (reads_new W3 #[.string x.1, .string x.2] 51 2 1 rfl)
            have HAB := Lib.hid HAL.out.2.2.2.2.1
            go_wp2_with (at_builtin; go_loud (refine wpList_append_any _ rfl (.tmp 42) (.tmp 44) _ rfl w.heap.size 51 i0 _ 2 32 Try.underlying38 hi0 hz0 hz1 hz2 rfl (by omega) _ (out ++ [(key, value)]).length (pairCells (out ++ [(key, value)])) rfl HAO.out (W3.heap.size + 1) (some ⟨W3.heap.size, 0, none⟩) 1 1 [.string x.1, .string x.2] rfl HAR.out (by simp [Value.oneCell']) (by have := HOL2.out; (try simp only [List.length_append, List.length_cons, List.length_nil]); simp only [maxLen]; omega) (by have := HOL2.out; (try simp only [List.length_append, List.length_cons, List.length_nil]); omega) HAB.out ?_); intro v5 w5 hown5 hg5 hat5; obtain ⟨A5, c5, rfl, -, -, -⟩ := own_form hown5; have hg5' : (W3.alloc (.cells #[.string x.1, .string x.2] 51)).grownBy w5 (Value.slice A3 (out.length + 1) c3).ownBlock := hg5; obtain ⟨q5, f5, q5'⟩ := HAL.out.grown hg5' hown5; have HM5 := Lib.hid (HAL.out.more (x := x) H67.out.1 hg5' hown5);  clear hown5 hg5 hg5' hat5)
            go_roundw
            case rel => exact ⟨p + 1, true, by go_num, rfl, (out ++ [(key, value)]) ++ [x], _, by have h := HM5.out; rw [List.length_append] at h; exact h, HPL.out, by have := HOL.out; simp; omega, by rw [List.append_assoc, List.append_assoc]; exact HN2.out⟩
            case measure => simp [Lib.intOf]; omega
          · have hl2 : Op.bytesLess key.toList x.1.toList = false := by
              rw [hl1, he1] at hbt
              cases h : Op.bytesLess key.toList x.1.toList
              · rfl
              · rw [h] at hbt; cases hbt
            simp only [hl1, Bool.not_false, Bool.not_true, Bool.and_false, if_false, Bool.or_false, List.nil_append] at HN9
            have HN2 := Lib.hid HN9
            clear HN9 hbt hbt2 hnw
            have HAL := Lib.hid (HM1.out.alloc (.cells #[.string x.1, .string x.2] 51))
            have HAO := Lib.hid HAL.out.2.2.1
            have HAR := Lib.hid (reads_new W1 #[.string x.1, .string x.2] 51 2 1 rfl)
            have HAB := Lib.hid HAL.out.2.2.2.2.1
            go_wp2_with (at_builtin; go_loud (refine wpList_append_any _ rfl (.tmp 42) (.tmp 44) _ rfl w.heap.size 51 i0 _ 2 32 Try.underlying38 hi0 hz0 hz1 hz2 rfl (by omega) _ (out).length (pairCells (out)) rfl HAO.out (W1.heap.size + 1) (some ⟨W1.heap.size, 0, none⟩) 1 1 [.string x.1, .string x.2] rfl HAR.out (by simp [Value.oneCell']) (by have := HOL2.out; (try simp only [List.length_append, List.length_cons, List.length_nil]); simp only [maxLen]; omega) (by have := HOL2.out; (try simp only [List.length_append, List.length_cons, List.length_nil]); omega) HAB.out ?_); intro v3 w3 hown3 hg3 hat3; obtain ⟨A3, c3, rfl, -, -, -⟩ := own_form hown3; have hg3' : (W1.alloc (.cells #[.string x.1, .string x.2] 51)).grownBy w3 (Value.slice A7 out.length c7).ownBlock := hg3; obtain ⟨q3, f3, q3'⟩ := HAL.out.grown hg3' hown3; have HM3 := Lib.hid (HAL.out.more (x := x) H67.out.1 hg3' hown3);  clear hown3 hg3 hg3' hat3)
            go_roundw
            case rel => exact ⟨p + 1, false, by go_num, rfl, out ++ [x], _, HM3.out, HPL.out, by have := HOL.out; simp; omega, by rw [List.append_assoc]; simpa using HN2.out⟩
            case measure => simp [Lib.intOf]; omega
        · simp only [Bool.not_true, Bool.false_and, Bool.true_or, List.nil_append] at HN9
          have HN2 := Lib.hid HN9
          clear HN9 hbt hbt2 hnw
          have HAL := Lib.hid (HM1.out.alloc (.cells #[.string x.1, .string x.2] 51))
          have HAO := Lib.hid HAL.out.2.2.1
          have HAR := Lib.hid (reads_new W1 #[.string x.1, .string x.2] 51 2 1 rfl)
          have HAB := Lib.hid HAL.out.2.2.2.2.1
          go_wp2_with (at_builtin; go_loud (refine wpList_append_any _ rfl (.tmp 42) (.tmp 44) _ rfl w.heap.size 51 i0 _ 2 32 Try.underlying38 hi0 hz0 hz1 hz2 rfl (by omega) _ (out).length (pairCells (out)) rfl HAO.out (W1.heap.size + 1) (some ⟨W1.heap.size, 0, none⟩) 1 1 [.string x.1, .string x.2] rfl HAR.out (by simp [Value.oneCell']) (by have := HOL2.out; (try simp only [List.length_append, List.length_cons, List.length_nil]); simp only [maxLen]; omega) (by have := HOL2.out; (try simp only [List.length_append, List.length_cons, List.length_nil]); omega) HAB.out ?_); intro v3 w3 hown3 hg3 hat3; obtain ⟨A3, c3, rfl, -, -, -⟩ := own_form hown3; have hg3' : (W1.alloc (.cells #[.string x.1, .string x.2] 51)).grownBy w3 (Value.slice A7 out.length c7).ownBlock := hg3; obtain ⟨q3, f3, q3'⟩ := HAL.out.grown hg3' hown3; have HM3 := Lib.hid (HAL.out.more (x := x) H67.out.1 hg3' hown3);  clear hown3 hg3 hg3' hat3)
          go_roundw
          case rel => exact ⟨p + 1, true, by go_num, rfl, out ++ [x], _, HM3.out, HPL.out, by have := HOL.out; simp; omega, by rw [List.append_assoc]; simpa using HN2.out⟩
          case measure => simp [Lib.intOf]; omega
    · have hq1 : ¬ (p : Int) < (n : Int) := by omega
      have HOL2 := Lib.hid (show out.length ≤ 2000000 by have := HOL.out; have := HLEN.out; omega)
      have hE := HE.out
      rw [List.drop_of_length_le (by rw [HLEN.out]; omega)] at hE
      obtain ⟨b0, b1, b2⟩ := HM.out.box
      cases d
      · have HN2 := Lib.hid (show refPut false ks (key, value) = out ++ [(key, value)] from hE)
        clear hE
        have HAL := Lib.hid (HM.out.alloc (.cells #[.string ((key, value) : PKey).1, .string ((key, value) : PKey).2] 51))
        have HAO := Lib.hid HAL.out.2.2.1
        have HAR := Lib.hid (reads_new wr #[.string ((key, value) : PKey).1, .string ((key, value) : PKey).2] 51 2 1 rfl)
        have HAB := Lib.hid HAL.out.2.2.2.2.1
        go_upto_region 14 with (at_builtin; go_loud (refine wpList_append_any _ rfl (.tmp 51) (.tmp 55) _ rfl w.heap.size 51 i0 _ 2 32 Try.underlying38 hi0 hz0 hz1 hz2 rfl (by omega) _ (out).length (pairCells (out)) rfl HAO.out (wr.heap.size + 1) (some ⟨wr.heap.size, 0, none⟩) 1 1 [.string ((key, value) : PKey).1, .string ((key, value) : PKey).2] rfl HAR.out (by simp [Value.oneCell']) (by have := HOL2.out; (try simp only [List.length_append, List.length_cons, List.length_nil]); simp only [maxLen]; omega) (by have := HOL2.out; (try simp only [List.length_append, List.length_cons, List.length_nil]); omega) HAB.out ?_); intro v3 w3 hown3 hg3 hat3; obtain ⟨A3, c3, rfl, -, -, -⟩ := own_form hown3; have hg3' : (wr.alloc (.cells #[.string ((key, value) : PKey).1, .string ((key, value) : PKey).2] 51)).grownBy w3 (Value.slice A7 out.length c7).ownBlock := hg3; obtain ⟨q3, f3, q3'⟩ := HAL.out.grown hg3' hown3; have HM3 := Lib.hid (HAL.out.more (x := ((key, value) : PKey)) H67.out.1 hg3' hown3);  clear hown3 hg3 hg3' hat3)
        obtain ⟨W3, hW3⟩ : ∃ W3, w3.setCell ⟨r7, 1, none⟩ (.slice A3 (out.length + 1) c3) = W3 := ⟨_, rfl⟩
        have HM4 := Lib.hid (show MakeX w w.heap.size r6 r7 nm (out ++ [(key, value)]) (.slice A3 (out.length + 1) c3) W3 from by rw [← hW3]; exact HM3.out)
        rw [hW3]
        clear hW3 q3 f3 q3' b0 b1 b2
        obtain ⟨b0, b1, b2⟩ := HM4.out.box
        obtain ⟨d0, d1, d2, d3, d4, d5⟩ := HM4.out.ret
        go_wp2
        obtain ⟨z1, z2, z3⟩ := HM4.out.done H67.out.2
        refine bodyPost_ret (mput_result z1 rfl) rfl ⟨_, rfl, ?_, z3⟩
        rw [HN2.out]
        exact z2
      · have HN2 := Lib.hid (show refPut false ks (key, value) = out from by rw [hE]; simp [refPut])
        clear hE
        obtain ⟨d0, d1, d2, d3, d4, d5⟩ := HM.out.ret
        go_wp2
        obtain ⟨z1, z2, z3⟩ := HM.out.done H67.out.2
        refine bodyPost_ret (mput_result z1 rfl) rfl ⟨_, rfl, ?_, z3⟩
        rw [HN2.out]
        exact z2
end Go.Proofs.Ytjebaibcfmjinaa
