/-
  The walk of the document's Without. Condition: the path is within the reach.
-/
import Derived.Test.YtjebaibcfmjinaaPathDelete
import Derived.Test.YtjebaibcfmjinaaRefTake
import Derived.Deep.RegionHeld3
namespace Go.Proofs.Ytjebaibcfmjinaa
open Go.RowKit

theorem dropK_less (ks : List PKey) (key : ByteArray) : (dropK ks key).length < ks.length ↔ HasK ks key := by
  constructor
  · intro h
    by_cases hk : HasK ks key
    · exact hk
    · have e : dropK ks key = ks := by
        unfold dropK
        rw [List.filter_eq_self]
        intro x hx
        simp only [decide_eq_true_eq]
        exact fun e => hk ⟨x, hx, e⟩
      rw [e] at h
      omega
  · rintro ⟨k, hk, he⟩
    unfold dropK
    exact List.length_filter_lt_length_iff_exists.2 ⟨k, hk, by simp [he]⟩
theorem reads_blk {w : World} {g size n : Nat} {t : TypeId} {cs : Array Value} (h : Blk w g t cs) (hs : cs.size = n * size) : Reads w (g + 1) size (some ⟨g, 0, none⟩) n cs.toList := by
  refine ⟨by simpa using hs, fun _ => ⟨_, rfl, by simp, fun j u hu => ?_⟩⟩
  have ha : (⟨g, 0, none⟩ : Addr).add j = ⟨g, j, none⟩ := by by_cases hj : j = 0 <;> simp [Addr.add, hj]
  rw [ha, h.cell j, ← hu]
  simp
theorem step_append_any {P : Program} {ops : Array Oper} {o : Oper} {a : Act} {w : World} {K : Act → World → Prop} {Q : Exit → Act → World → Prop} {E : Prop} (hgd : o.guard = none) (s x : Operand) (t : TypeId)
    (ho : o.op = .call { callee := .builtin .append, args := #[s, x], argTypes := #[t, t] })
    (base : Nat) (e : TypeId) (i : TypeInfo) (z : Value) (size bytes : Nat) (ht : P.underlying t = some (.slice e)) (hi : P.info? e = some i) (hz : i.zero = some z)
    (hsize : i.size = size) (hby : i.bytes = bytes) (hzs : z.cells.size = size) (hsz : 0 < size)
    (v : Value) (n : Nat) (xs : List Value) (hs : a.eval s = v) (hown : w.ownsRow base e size v n xs)
    (B : Nat) (A : Option Addr) (m c : Nat) (news : List Value) (hx : a.eval x = .slice A m c) (hr : Reads w B size A m news) (h1 : ∀ u ∈ news, u.oneCell' = true)
    (h63 : n + m ≤ maxLen) (hbytes : (n + m) * bytes ≤ 140737488355328) (hbase : base ≤ w.heap.size)
    (h : ∀ v' w', w'.ownsRow base e size v' (n + m) (xs ++ news) → w.grownBy w' v.ownBlock → (v'.ownBlock = v.ownBlock ∨ v'.ownBlock = some w.heap.size) → K (a.put o.dst v') w') :
    if Region.wanted o (yielded ops a.tmps) = true then Oper.wp P o a w K Q else E := by
  have hw : Region.wanted o (yielded ops a.tmps) = true := by simp [Region.wanted, hgd]
  rw [if_pos hw]
  exact wp_append_any w s x t ho base e i z size bytes ht hi hz hsize hby hzs hsz v n xs hs hown B A m c news hx hr h1 h63 hbytes hbase h
theorem own_empty {w : World} {g base : Nat} {e : TypeId} (h : Blk w g e #[]) (hb : base ≤ g) (size : Nat) : w.ownsRow base e size (.slice (some ⟨g, 0, none⟩) 0 0) 0 [] :=
  ⟨by simp, .inr ⟨g, 0, #[], rfl, hb, h, Nat.le_refl _, Nat.zero_le _, by simp, by simp⟩⟩
theorem wo_cells {l : List PStep} {vs : List Value} {q : Nat} {sn : ByteArray} {ks ks' : List PKey} {kv v : Value} (hst : l[q]? = some (sn, ks)) (hkv : vs[q]? = some kv) (hl : vs.length = l.length) :
    (stepCells l vs).take (q * 2) ++ [.string sn, v] ++ (stepCells l vs).drop ((q + 1) * 2) = stepCells (l.set q (sn, ks')) (vs.set q v) := by
  have h := stepCells_set l vs q (sn, ks) ks' v hst hl
  have hc := (stepCells_at l vs q (sn, ks) kv hst hkv).1
  have hlt := (List.getElem?_eq_some_iff.1 (stepCells_at l vs q (sn, ks) kv hst hkv).2).1
  rw [h]
  apply List.ext_getElem?
  intro t
  rw [List.append_assoc]
  rcases Nat.lt_trichotomy t (q * 2) with h1 | rfl | h1
  · rw [List.getElem?_append_left (by rw [List.length_take]; omega), List.getElem?_take, if_pos h1, List.getElem?_set_ne (by omega)]
  · rw [List.getElem?_append_right (by rw [List.length_take]; omega), List.length_take, Nat.min_eq_left (by omega), Nat.sub_self, List.getElem?_set_ne (by omega), hc]
    rfl
  · rw [List.getElem?_append_right (by rw [List.length_take]; omega), List.length_take, Nat.min_eq_left (by omega)]
    rcases Nat.lt_or_ge (q * 2 + 1) t with h2 | h2
    · rw [show t - q * 2 = (t - (q * 2 + 2)) + 2 by omega]
      simp only [List.cons_append, List.nil_append, List.getElem?_cons_succ, List.getElem?_drop]
      rw [List.getElem?_set_ne (by omega)]
      congr 1
      omega
    · obtain rfl : t = q * 2 + 1 := by omega
      rw [show q * 2 + 1 - q * 2 = 1 by omega, List.getElem?_set_self hlt]
      rfl
theorem wo_print {w2 wr W5 w7 : World} {A A3 A7 : Option Addr} {c c3 c7 q base : Nat} {l : List PStep} {vs news : List Value} {sn key : ByteArray} {ks : List PKey}
    (hst : l[q]? = some (sn, ks)) (hn : news = (stepCells l vs).take (q * 2)) (hR : StepsR w2 (.slice A l.length c) l vs) (hB : Below w2.heap.size w2 wr) (hB5 : Below wr.heap.size wr W5)
    (hO5 : W5.ownsRow base 51 2 (.slice A3 (dropK ks key).length c3) (dropK ks key).length (pairCells (dropK ks key))) (hSM : (∀ st ∈ l, StepTiny st) ∧ l.length ≤ 64) (hll : (l.set q (sn, dropK ks key)).length = l.length)
    (k1 : l.length ≤ c7) (k2 : c7 ≤ maxLen) (k3 : Reads w7 w7.heap.size 2 A7 l.length (news ++ [.string sn, .slice A3 (dropK ks key).length c3] ++ (stepCells l vs).drop ((q + 1) * 2))) (hB7 : Below W5.heap.size W5 w7) :
    Calls Try.prog 24 #[.slice A7 l.length c7] w7 (PutPost (l.set q (sn, dropK ks key)) w7) := by
  obtain ⟨_, _, e, h1, h2, h3, hvl, hK⟩ := hR
  cases e
  have hlt := (List.getElem?_eq_some_iff.1 hst).1
  obtain ⟨kv, hkv⟩ : ∃ kv, vs[q]? = some kv := ⟨vs[q]'(by omega), by simp [hvl, hlt]⟩
  have hB27 : Below w2.heap.size w2 w7 := (hB.trans (hB5.mono hB.size)).trans (hB7.mono (Nat.le_trans hB.size hB5.size))
  refine rprint_any _ (l.set q (sn, dropK ks key)) (vs.set q (.slice A3 (dropK ks key).length c3)) w7 ⟨A7, c7, by rw [hll], by rw [hll]; exact k1, k2, ?_, by simp [hvl], ?_⟩ ?_ (by rw [hll]; omega)
  · rw [hn, wo_cells hst hkv hvl] at k3
    rw [hll]
    exact k3
  · intro i st kj hi hj
    by_cases h : i = q
    · subst h
      rw [List.getElem?_set_self hlt] at hi
      rw [List.getElem?_set_self (by omega)] at hj
      cases hi
      cases hj
      obtain ⟨A', c', e, a, b, hr⟩ := own_form hO5
      exact KeysAt.more ⟨A', c', e, a, b, hr⟩ hB7 hB7.size
    · rw [List.getElem?_set_ne (fun e => h e.symm)] at hi hj
      exact (hK i st kj hi hj).more hB27 hB27.size
  · intro st h
    rcases List.mem_or_eq_of_mem_set h with h | rfl
    · exact (hSM.1 st h).small
    · have h0 := (hSM.1 (sn, ks) (List.mem_of_getElem? hst)).small
      exact ⟨h0.1, Nat.le_trans (List.length_filter_le _ _) h0.2.1, fun x hx => h0.2.2 x (List.mem_filter.1 hx).1⟩
set_option maxHeartbeats 16000000 in
set_option maxRecDepth 100000 in
theorem rwithout_any (p key : ByteArray) (w : World) (hs : p.size ≤ 140737488355328) :
    Calls Try.prog 27 #[.string p, .string key] w (WithoutPost p key w) := by
  have HP := Lib.hid (show ∀ W, Calls Try.prog 15 #[.string p] W (ParseSays p W) from fun W => rparse_any p W hs)
  go_enter Try.func27, Try.ntmps27
  go_upto_region 2 with (go_at_call 15; go_loud (refine (HP.out _).mono ?_; rintro e w1 ⟨hB1, ⟨x, y, hE, rfl⟩ | ⟨l, v, hE, rfl, vs, hI⟩⟩; rotate_left; (obtain ⟨A, c, rfl, -, -, -⟩ := own_form hI.2.1); rotate_right; all_goals (have HB1 := Lib.hid hB1; have HE := Lib.hid hE; clear hB1 hE)))
  · have hx0 : (x == 0) = false := by
      rw [beq_eq_false_iff_ne]
      have := parseM_err HE.out
      omega
    have HB2 := Lib.hid (HB1.out.alloc HB1.out.size (.cells #[.int .i64 x, .int .i64 y] 26))
    go_wp2
    go_ret2
    exact ⟨HB2.out, .inl ⟨⟨_, HE.out⟩, rfl⟩⟩
  · have HSM := Lib.hid (show (∀ st ∈ l, StepTiny st) ∧ l.length ≤ 64 from ⟨(parseM_small HE.out).1, (parseM_small HE.out).2.1⟩)
    have HB2 := Lib.hid (HB1.out.alloc HB1.out.size (.cells #[.int .i64 0, .int .i64 0] 26))
    have HR2 := Lib.hid (hI.reads.more ((Below.refl _ _).alloc (Nat.le_refl _) (.cells #[.int .i64 0, .int .i64 0] 26)))
    clear hI
    have hn1 : (l.length : Int) ≤ 64 := by have := HSM.out.2; omega
    have hn0 : (0 : Int) ≤ (l.length : Int) := by omega
    go_upto_region 5 with (fail)
    generalize (w1.alloc (.cells #[.int .i64 0, .int .i64 0] 26)) = w2 at *
    go_wp2
    go_loopw [8, 9, 10, 11, 12, 13] (fun iv _ _ _ _ _ wr => ∃ q : Nat, iv = .int .i64 ((q : Int) - 1) ∧ q ≤ l.length ∧ (∀ (j : Nat) (st' : PStep), q ≤ j → l[j]? = some st' → ¬ HasK st'.2 key) ∧ Below w2.heap.size w2 wr) (fun iv _ _ _ _ _ _ => ((Lib.intOf iv) + 1).toNat)
    case atStart => exact ⟨l.length, rfl, Nat.le_refl _, fun j st' hj h => by have := (List.getElem?_eq_some_iff.1 h).1; omega, Below.refl _ _⟩
    case round =>
      obtain ⟨q, rfl, hq, hT, hB⟩ := hrel
      have HT := Lib.hid hT
      have HB := Lib.hid hB
      clear hT hB
      cases q with
      | zero =>
        go_wp2
        go_ret2
        refine ⟨HB2.out.trans (HB.out.mono HB2.out.size), .inr ⟨l, HE.out, .inl ⟨.inl ⟨rfl, fun st hst => ?_⟩, rfl⟩⟩⟩
        obtain ⟨j, hj⟩ := List.mem_iff_getElem?.1 hst
        exact HT.out j st (Nat.zero_le _) hj
      | succ q =>
        have hlt : q < l.length := by omega
        have hq1 : ((q + 1 : Nat) : Int) - 1 = (q : Int) := by omega
        have hq2 : (q : Int) < (l.length : Int) := by omega
        rw [hq1]
        clear hq1
        obtain ⟨st, hst⟩ : ∃ st, l[q]? = some st := ⟨l[q], by simp [hlt]⟩
        obtain ⟨kv, hkv⟩ : ∃ kv, vs[q]? = some kv := ⟨vs[q]'(by obtain ⟨_, _, _, _, _, _, h, _⟩ := HR2.out; omega), by obtain ⟨_, _, _, _, _, _, h, _⟩ := HR2.out; simp [h, hlt]⟩
        have hK : KeysAt wr wr.heap.size kv st.2 := by
          obtain ⟨_, _, _, _, _, _, _, h⟩ := HR2.out
          exact (h q st kv hst hkv).more HB.out HB.out.size
        have hRd : Reads w2 w2.heap.size 2 A l.length (stepCells l vs) := by obtain ⟨A', c', e, _, _, h, _⟩ := HR2.out; cases e; exact h
        have hcs := stepCells_at l vs q st kv hst hkv
        obtain ⟨b1, o1, rfl, hb1, hcl1⟩ := (hRd.below HB.out).spot (by omega) (by omega)
        have r0 := hcl1 _ _ hcs.1
        have r1 : wr.cell? ⟨b1, o1 + q * 2 + 1, none⟩ = some kv := hcl1 _ _ hcs.2
        have hkl : st.2.length ≤ 512 := (HSM.out.1 st (List.mem_of_getElem? hst)).2.1
        have HST := Lib.hid hst
        have HK := Lib.hid hK
        clear hcl1 hcs hRd hK hkv hst
        obtain ⟨sn, ks⟩ := st
        simp only at r0 hkl
        by_cases hk : HasK ks key
        · have HTK := Lib.hid (show Calls Try.prog 47 #[.agg #[.string sn, kv], .string key] wr (fun en w' => ∃ v, en = .returned (.tuple #[.agg #[.string sn, v], .bool true]) ∧ w'.ownsRow wr.heap.size 51 2 v (dropK ks key).length (pairCells (dropK ks key)) ∧ Below wr.heap.size wr w') from (rtake_any (sn, ks) key kv wr HK.out (by show ks.length ≤ 1000000; omega)).mono fun en w' ⟨v, h1, h2, h3⟩ => ⟨v, by rw [h1]; rw [show decide ((dropK ks key).length < ks.length) = true by rw [decide_eq_true_eq]; exact (dropK_less ks key).2 hk], h2, h3⟩)
          go_upto_region 9 with (go_at_call 47; go_loud (refine HTK.out.mono ?_; rintro e w3 ⟨v3, rfl, ho3, hB3⟩; obtain ⟨A3, c3, rfl, -, -, -⟩ := own_form ho3; have HO3 := Lib.hid ho3; have HB3 := Lib.hid hB3; clear ho3 hB3))
          have HB5 := Lib.hid (show Below wr.heap.size wr (w3.alloc (.cells #[.string sn, .slice A3 (dropK ks key).length c3] 40)) from HB3.out.alloc HB3.out.size _)
          have HO5 := Lib.hid (HO3.out.alloc (.cells #[.string sn, .slice A3 (dropK ks key).length c3] 40))
          have hBx := Blk.new w3 40 #[.string sn, .slice A3 (dropK ks key).length c3]
          have HSZ := Lib.hid (show w3.heap.size < (w3.alloc (.cells #[.string sn, .slice A3 (dropK ks key).length c3] 40)).heap.size by simp)
          generalize (w3.alloc (.cells #[.string sn, .slice A3 (dropK ks key).length c3] 40)) = W5 at *
          generalize w3.heap.size = s9 at *
          have x0 : W5.cell? ⟨s9, 0, none⟩ = some (.string sn) := hBx.cell 0
          have x1 : W5.cell? ⟨s9, 1, none⟩ = some (.slice A3 (dropK ks key).length c3) := hBx.cell 1
          have HBx := Lib.hid hBx
          clear hBx
          have hcc : (l.length : Int) ≤ (c : Int) := by obtain ⟨_, _, e, h, _⟩ := HR2.out; cases e; omega
          have hqc : (q : Int) ≤ (c : Int) := by omega
          have n0 := World.new_ne W5 ⟨s9, 0, none⟩ x0
          have n1 := World.new_ne W5 ⟨s9, 1, none⟩ x1
          obtain ⟨i0, hi0, hz0, hz1, hz2⟩ := info_parts stepz_info
          have hsz := HSZ.out
          obtain ⟨news, hnews⟩ : ∃ news, news = (stepCells l vs).take (q * 2) := ⟨_, rfl⟩
          have HRq := Lib.hid (show Reads W5 W5.heap.size 2 (some ⟨b1, o1, none⟩) q news from by
            obtain ⟨_, _, e, _, _, h, _⟩ := HR2.out
            cases e
            rw [hnews]
            exact (((h.below HB.out).below (HB5.out.mono HB.out.size)).more (by have := HB.out.size; have := HB5.out.size; omega)).take (by omega))
          have HOC := Lib.hid (show ∀ u ∈ news, u.oneCell' = true from fun u hu => by
            rw [hnews] at hu
            have hm := List.mem_of_mem_take hu
            exact stepCells_one HR2.out u hm)
          have HNW := Lib.hid hnews
          clear hnews
          go_region_held3 (fun w' => w'.cell? ⟨s9, 0, none⟩ = some (.string sn) ∧ w'.cell? ⟨s9, 1, none⟩ = some (.slice A3 (dropK ks key).length c3)) (go_keep) (first
            | (refine step_append_any (o := ⟨some 43, _, _, _, _, _⟩) rfl (.tmp 39) (.tmp 42) 32 (by rfl) W5.heap.size 40 i0 _ 2 40 Try.underlying32 hi0 hz0 hz1 hz2 (by rfl) (by omega) _ 0 [] (by rfl) (by first | exact own_empty (Blk.new _ _ _) (Nat.le_refl _) 2 | exact own_empty ((Blk.new W5.drew 40 #[]).alloc _) (Nat.le_refl _) 2 | (have h0 := Blk.new (W5.drew.alloc (.cells #[.string sn, .slice A3 (dropK ks key).length c3] 40)) 40 #[]; rw [World.size_alloc] at h0; exact own_empty h0 (Nat.le_succ _) 2)) W5.heap.size (some ⟨b1, o1, none⟩) q c news (by rfl) (HRq.out.below (by first | exact ((below_drewN (Below.refl W5.heap.size W5) 1).alloc (by simp <;> omega) _) | exact (((below_drewN (Below.refl W5.heap.size W5) 1).alloc (by simp <;> omega) _).alloc (by simp <;> omega) _))) HOC.out (by simp only [maxLen]; omega) (by omega) (by simp <;> omega) ?_; intro v4 w4 ho4 hg4 hat4; simp only [Nat.zero_add, List.nil_append] at ho4; have HO4 := Lib.hid ho4; obtain ⟨A4, c4, rfl, -, -, -⟩ := own_form ho4; have hb4 : Blk w4 s9 40 #[.string sn, .slice A3 (dropK ks key).length c3] := (by first | exact ((HBx.out.drewN 1).alloc _).grown hg4 (fun e => by simp [Act.eval, Value.ownBlock] at e <;> omega) | exact (((HBx.out.drewN 1).alloc _).alloc _).grown hg4 (fun e => by simp [Act.eval, Value.ownBlock] at e <;> omega)); have HB4 := Lib.hid (show Below W5.heap.size W5 w4 from (by first | exact ((below_drewN (Below.refl W5.heap.size W5) 1).alloc (by simp <;> omega) _).grown hg4 (by simp <;> omega) (fun k e => by simp [Act.eval, Value.ownBlock] at e <;> omega) | exact (((below_drewN (Below.refl W5.heap.size W5) 1).alloc (by simp <;> omega) _).alloc (by simp <;> omega) _).grown hg4 (by simp <;> omega) (fun k e => by simp [Act.eval, Value.ownBlock] at e <;> omega))); (first | (have hq4 : Blk w4 (W5.heap.size + 1) 40 #[.string sn, .slice A3 (dropK ks key).length c3] := (by have h0 := Blk.new (W5.drew.alloc (.cells #[] 40)) 40 #[.string sn, .slice A3 (dropK ks key).length c3]; rw [World.size_alloc] at h0; exact h0.grown hg4 (fun e => by simp [Act.eval, Value.ownBlock] at e <;> omega)); have HQ4 := Lib.hid hq4; clear hq4) | (have hq4 : Blk w4 W5.heap.size 40 #[.string sn, .slice A3 (dropK ks key).length c3] := ((Blk.new W5.drew 40 #[.string sn, .slice A3 (dropK ks key).length c3]).alloc (.cells #[] 40)).grown hg4 (fun e => by simp [Act.eval, Value.ownBlock] at e <;> omega); have HQ4 := Lib.hid hq4; clear hq4) | skip); have z0 : w4.cell? ⟨s9, 0, none⟩ = some (.string sn) := hb4.cell 0; have z1 : w4.cell? ⟨s9, 1, none⟩ = some (.slice A3 (dropK ks key).length c3) := hb4.cell 1; have m0 := World.new_ne w4 ⟨s9, 0, none⟩ z0; have m1 := World.new_ne w4 ⟨s9, 1, none⟩ z1; have HX4 := Lib.hid hb4; clear ho4 hg4 hat4 hb4)
            | (refine step_append_any (o := ⟨some 46, _, _, _, _, _⟩) rfl (.tmp 43) (.tmp 45) 32 (by rfl) W5.heap.size 40 i0 _ 2 40 Try.underlying32 hi0 hz0 hz1 hz2 (by rfl) (by omega) _ q news (by rfl) (HO4.out.alloc _) _ _ 1 1 [.string sn, .slice A3 (dropK ks key).length c3] (by rfl) (reads_new w4 #[.string sn, .slice A3 (dropK ks key).length c3] 40 2 1 rfl) (by simp [Value.oneCell']) (by simp only [maxLen]; omega) (by omega) (by have := HB4.out.size; (try simp only [World.size_alloc]); omega) ?_; intro v6 w6 ho6 hg6 hat6; have HO6 := Lib.hid ho6; obtain ⟨A6, c6, rfl, -, -, -⟩ := own_form ho6; have HB6 := Lib.hid (show Below W5.heap.size W5 w6 from (HB4.out.alloc HB4.out.size _).grown hg6 (by have := HB4.out.size; (try simp only [World.size_alloc]); omega) (fun k e => by have := HO4.out.lt k e; omega)); have hb6 : Blk w6 s9 40 #[.string sn, .slice A3 (dropK ks key).length c3] := (HX4.out.alloc _).grown hg6 (fun e => by have := HO4.out.lt _ e.symm; omega); have y0 : w6.cell? ⟨s9, 0, none⟩ = some (.string sn) := hb6.cell 0; have y1 : w6.cell? ⟨s9, 1, none⟩ = some (.slice A3 (dropK ks key).length c3) := hb6.cell 1; clear ho6 hg6 hat6 hb6)
            | (go_loud (refine step_append_any (o := ⟨some 46, _, _, _, _, _⟩) rfl (.tmp 43) (.tmp 45) 32 (by rfl) W5.heap.size 40 i0 _ 2 40 Try.underlying32 hi0 hz0 hz1 hz2 (by rfl) (by omega) _ q news (by rfl) (HO4.out) _ _ 1 1 [.string sn, .slice A3 (dropK ks key).length c3] (by rfl) (reads_blk HQ4.out rfl) (by simp [Value.oneCell']) (by simp only [maxLen]; omega) (by omega) (by have := HB4.out.size; (try simp only [World.size_alloc]); omega) ?_; intro v6 w6 ho6 hg6 hat6; have HO6 := Lib.hid ho6; obtain ⟨A6, c6, rfl, -, -, -⟩ := own_form ho6; have HB6 := Lib.hid (show Below W5.heap.size W5 w6 from (HB4.out).grown hg6 (by have := HB4.out.size; (try simp only [World.size_alloc]); omega) (fun k e => by have := HO4.out.lt k e; omega)); have hb6 : Blk w6 s9 40 #[.string sn, .slice A3 (dropK ks key).length c3] := (HX4.out).grown hg6 (fun e => by have := HO4.out.lt _ e.symm; omega); have y0 : w6.cell? ⟨s9, 0, none⟩ = some (.string sn) := hb6.cell 0; have y1 : w6.cell? ⟨s9, 1, none⟩ = some (.slice A3 (dropK ks key).length c3) := hb6.cell 1; clear ho6 hg6 hat6 hb6)))
          all_goals
            rename_i hHeld
            have hll : (l.set q (sn, dropK ks key)).length = l.length := List.length_set
            obtain ⟨A9, hA9, hR9⟩ : ∃ A9 : Addr, (if c = q + 1 then some (⟨b1, o1, none⟩ : Addr) else some ⟨b1, o1 + (q + 1) * 2, none⟩) = some A9 ∧ Reads w6 W5.heap.size 2 (some A9) (l.length - (q + 1)) ((stepCells l vs).drop ((q + 1) * 2)) := by
              obtain ⟨_, _, e, h1, _, h, _⟩ := HR2.out
              cases e
              have hr := ((((h.below HB.out).below (HB5.out.mono HB.out.size)).more (by have := HB.out.size; have := HB5.out.size; omega)).below HB6.out).drop (k := q + 1) (cap := c) (by omega) h1
              by_cases h9 : c = q + 1
              · rw [if_pos h9] at hr
                exact ⟨_, if_pos h9, hr⟩
              · rw [if_neg h9] at hr
                refine ⟨⟨b1, o1 + (q + 1) * 2, none⟩, if_neg h9, ?_⟩
                have e9 : (⟨b1, o1, none⟩ : Addr).add ((q + 1) * 2) = ⟨b1, o1 + (q + 1) * 2, none⟩ := by simp [Addr.add]
                simpa only [Option.map_some, e9] using hr
            have HR9 := Lib.hid hR9
            have HO9 := Lib.hid (show ∀ u ∈ (stepCells l vs).drop ((q + 1) * 2), u.oneCell' = true from fun u hu => stepCells_one HR2.out u (List.mem_of_mem_drop hu))
            clear hR9
            have hq3 : (q : Int) + 1 ≤ (c : Int) := by omega
            have hq4 : (0 : Int) ≤ (q : Int) + 1 := by omega
            have hq5 : (q : Int) + 1 ≤ (l.length : Int) := by omega
            have hcm : (c : Int) ≤ maxLen := by obtain ⟨_, _, e, _, h, _⟩ := HR2.out; cases e; omega
            clear n0 n1 m0 m1 z0 z1 y0 y1 x0 x1 hHeld
            go_upto_region 11 with (first
              | (go_at_call 24; go_loud (refine HPR.out.mono ?_; rintro e w8 ⟨rfl, hB8⟩; have HB8 := Lib.hid hB8; clear hB8))
              | (at_builtin; go_loud (refine wpList_append_any _ rfl (.tmp 48) (.tmp 52) _ rfl W5.heap.size 40 i0 _ 2 40 Try.underlying32 hi0 hz0 hz1 hz2 rfl (by omega) _ (q + 1) _ rfl HO6.out W5.heap.size (some A9) (l.length - (q + 1)) (c - (q + 1)) _ rfl HR9.out HO9.out (by simp only [maxLen]; omega) (by omega) HB6.out.size ?_); intro v7 w7 ho7 hg7 hat7; rw [show q + 1 + (l.length - (q + 1)) = l.length by omega] at ho7; obtain ⟨A7, c7, rfl, k1, k2, k3⟩ := own_form ho7; have HB7 := Lib.hid (show Below W5.heap.size W5 w7 from HB6.out.grown hg7 HB6.out.size (fun k e => (HO6.out.lt k e).1)); have HPR := Lib.hid (wo_print HST.out HNW.out HR2.out HB.out HB5.out HO5.out HSM.out hll k1 k2 k3 HB7.out); clear ho7 hg7 hat7 k1 k2 k3))
            go_wp2
            go_ret2
            have hW5 : Below w.heap.size w W5 := HB2.out.trans ((HB.out.trans (HB5.out.mono HB.out.size)).mono HB2.out.size)
            have hW7 : Below w.heap.size w w7 := hW5.trans (HB7.out.mono hW5.size)
            exact ⟨hW7.trans (HB8.out.mono hW7.size), .inr ⟨l, HE.out, .inr ⟨l.set q (sn, dropK ks key), .inr ⟨q, (sn, ks), HST.out, hk, fun j st' hj h => HT.out j st' (by omega) h, rfl⟩, rfl⟩⟩⟩
        · have HTK := Lib.hid (show Calls Try.prog 47 #[.agg #[.string sn, kv], .string key] wr (fun en w' => ∃ v, en = .returned (.tuple #[.agg #[.string sn, v], .bool false]) ∧ w'.ownsRow wr.heap.size 51 2 v (dropK ks key).length (pairCells (dropK ks key)) ∧ Below wr.heap.size wr w') from (rtake_any (sn, ks) key kv wr HK.out (by show ks.length ≤ 1000000; omega)).mono fun en w' ⟨v, h1, h2, h3⟩ => ⟨v, by rw [h1]; rw [show decide ((dropK ks key).length < ks.length) = false by rw [decide_eq_false_iff_not]; exact fun h => hk ((dropK_less ks key).1 h)], h2, h3⟩)
          have HN := Lib.hid hk
          clear hk
          go_wp2_with (go_at_call 47; go_loud (refine HTK.out.mono ?_; rintro e w3 ⟨v3, rfl, ho3, hB3⟩; obtain ⟨A3, c3, rfl, -, -, -⟩ := own_form ho3; have HO3 := Lib.hid ho3; have HB3 := Lib.hid hB3; clear ho3 hB3))
          go_roundw
          case rel =>
            refine ⟨q, rfl, by omega, ?_, (HB.out.trans (HB3.out.mono HB.out.size)).alloc (Nat.le_trans HB.out.size HB3.out.size) _⟩
            intro j st' hj h
            rcases Nat.eq_or_lt_of_le hj with rfl | hj
            · rw [HST.out] at h
              cases h
              exact HN.out
            · exact HT.out j st' hj h
          case measure => simp [Lib.intOf]
end Go.Proofs.Ytjebaibcfmjinaa
