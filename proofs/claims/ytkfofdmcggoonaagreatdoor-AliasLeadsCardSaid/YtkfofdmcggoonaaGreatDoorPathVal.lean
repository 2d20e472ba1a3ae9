/-
  The walk of (*path.reader).value. Condition: the string is not long (path.Parse refuses it else).
-/
import Derived.Test.YtkfofdmcggoonaaGreatDoorPathRd
import Derived.Test.YtkfofdmcggoonaaGreatDoorBlocks
import Derived.Lib.OthersKept
import Derived.Lib.RuneCountTail
import Derived.Lib.AppendStr
import Derived.Laws.Runes
import Derived.Deep.CutBlock
import Derived.Laws.Cover4
import Derived.ScopeJumps
import Derived.WalkMore
set_option linter.unusedVariables false
set_option linter.unusedSimpArgs false
namespace Go.Proofs.YtkfofdmcggoonaaGreatDoor
open Go.RowKit

theorem byte_info : (Tryz.prog.info? 5).map (fun i => (i.zero, i.size, i.bytes)) = some (some (.int .u8 0), 1, 1) := by kernel_rfl
theorem ba_len (b : ByteArray) : b.data.toList.length = b.size := by
  rw [Array.length_toList]
  rfl
theorem strCells_bvs (s : ByteArray) : Lib.strCells s = bvs s.data.toList := by
  simp [Lib.strCells, bvs, bv]
theorem own_far {w : World} {base : Nat} {e : TypeId} {size : Nat} {v : Value} {n : Nat} {xs : List Value} (h : w.ownsRow base e size v n xs) {p : Addr} (hp : p.block < base) (u : Value) : (w.setCell p u).ownsRow base e size v n xs := by
  obtain ⟨h1, h2⟩ := h
  refine ⟨h1, ?_⟩
  rcases h2 with h2 | ⟨g, cap, cur, a, b, c, d⟩
  · exact .inl h2
  · exact .inr ⟨g, cap, cur, a, b, (Below.heap_setCell w p u g (by omega)).trans c, d⟩
theorem own_iter {w : World} {base : Nat} {e : TypeId} {size : Nat} {v : Value} {n : Nat} {xs : List Value} (h : w.ownsRow base e size v n xs) {k : Nat} (hk : k < base) (s : ByteArray) (p : Nat) : (w.iterAt k s p).ownsRow base e size v n xs := by
  obtain ⟨h1, h2⟩ := h
  refine ⟨h1, ?_⟩
  rcases h2 with h2 | ⟨g, cap, cur, a, b, c, d⟩
  · exact .inl h2
  · exact .inr ⟨g, cap, cur, a, b, by rw [Lib.iterAt_other _ _ _ _ _ (by omega)]; exact c, d⟩
theorem Only.grown {g : Nat} {a w w' : World} {row : Option Nat} (h : Only g a w) (hg : w.grownBy w' row) (hr : ∀ k, row = some k → a.heap.size ≤ k) : Only g a w' :=
  ⟨hg.os.trans h.os, hg.tape.trans h.tape, hg.output.trans h.output, Nat.le_trans h.size hg.size, fun i hi hne => (hg.block i (Nat.lt_of_lt_of_le hi h.size) (fun e => by have := hr i e.symm; omega)).trans (h.block i hi hne)⟩
theorem Only.iterAt {g : Nat} {a w : World} (h : Only g a w) {k : Nat} (hk : a.heap.size ≤ k) (s : ByteArray) (p : Nat) : Only g a (w.iterAt k s p) :=
  ⟨h.os, h.tape, h.output, by rw [Lib.iterAt_size]; exact h.size, fun i hi hne => (Lib.iterAt_other w k i s p (by omega)).trans (h.block i hi hne)⟩

/-- Where value's loop is: the iterator stands at p of the rest, the row v holds 'out'. -/
def ValW (g fr : Nat) (s : ByteArray) (e a : Int) (w : World) (v : Value) (p : Nat) (out : List UInt8) (wr : World) : Prop :=
  wr.heap[w.heap.size]? = some (.stringIter (s.extract fr s.size) p) ∧ (∃ q, PR wr g s q e a) ∧ OB wr (w.heap.size + 1) 5 v out ∧ Only g w wr ∧ w.heap.size + 1 ≤ wr.heap.size
def ValIn (g fr : Nat) (s : ByteArray) (e a : Int) (w : World) (esc : Bool) (v : Value) (p : Nat) (out : List UInt8) (wr : World) : Prop :=
  ValW g fr s e a w v p out wr ∧ out.length ≤ 4 * p ∧ p ≤ s.size - fr ∧ valAt s fr fr false [] = valAt s fr (fr + p) esc out
section
variable {g fr : Nat} {s : ByteArray} {e a : Int} {w : World} {v : Value} {p : Nat} {out : List UInt8} {wr : World}
theorem ValW.pos (h : ValW g fr s e a w v p out wr) : wr.iterPos w.heap.size = p := by simp [World.iterPos, h.1]
theorem ValW.drewN (h : ValW g fr s e a w v p out wr) (k : Nat) : ValW g fr s e a w v p out (wr.drewN k) := by
  obtain ⟨h1, ⟨q, h2⟩, h3, h4, h5⟩ := h
  exact ⟨h1, ⟨q, h2.drewN k⟩, h3, h4.drewN k, h5⟩
theorem ValW.alloc (h : ValW g fr s e a w v p out wr) (o : Obj) : ValW g fr s e a w v p out (wr.alloc o) := by
  obtain ⟨h1, ⟨q, h2⟩, h3, h4, h5⟩ := h
  exact ⟨(Below.heap_alloc wr o _ (by omega)).trans h1, ⟨q, h2.alloc o⟩, h3.alloc o, h4.alloc o, by simp; omega⟩
theorem ValW.iterAt (h : ValW g fr s e a w v p out wr) (hg : g < w.heap.size) (p' : Nat) : ValW g fr s e a w v p' out (wr.iterAt w.heap.size (s.extract fr s.size) p') := by
  obtain ⟨h1, ⟨q, h2⟩, h3, h4, h5⟩ := h
  exact ⟨Lib.iterAt_heap _ _ _ _ _ h1, ⟨q, (Lib.iterAt_other _ _ _ _ _ (by omega)).trans h2⟩, own_iter h3 (by omega) _ _, h4.iterAt (Nat.le_refl _) _ _, by rw [Lib.iterAt_size]; exact h5⟩
theorem ValW.store (h : ValW g fr s e a w v p out wr) (hg : g < w.heap.size) (q : Nat) : ValW g fr s e a w v p out (wr.setCell ⟨g, 1, none⟩ (.int .i64 (q : Int))) := by
  obtain ⟨h1, ⟨q0, h2⟩, h3, h4, h5⟩ := h
  exact ⟨(Below.heap_setCell wr _ _ _ (by simp; omega)).trans h1, ⟨q, h2.goto_ q⟩, own_far h3 (by simp; omega) _, h4.setCell (.inl rfl) _, by simpa [World.setCell] using h5⟩
theorem ValW.grown (h : ValW g fr s e a w v p out wr) (hg : g < w.heap.size) {v' : Value} {out' : List UInt8} {w' : World} (hv : w'.ownsRow (w.heap.size + 1) 5 1 v' out'.length (bvs out')) (hgr : wr.grownBy w' v.ownBlock) : ValW g fr s e a w v' p out' w' := by
  obtain ⟨h1, ⟨q0, h2⟩, h3, h4, h5⟩ := h
  have hlt : ∀ k, v.ownBlock = some k → w.heap.size + 1 ≤ k := fun k hk => (World.ownsRow.lt h3 k hk).1
  refine ⟨(hgr.block _ (by omega) (fun e => by have := hlt _ e.symm; omega)).trans h1, ⟨q0, h2.grown hgr (fun e => by have := hlt _ e.symm; omega)⟩, hv, h4.grown hgr (fun k hk => by have := hlt k hk; omega), ?_⟩
  have := hgr.size
  omega
end
theorem valIn_end {g fr : Nat} {s : ByteArray} {e a : Int} {w wr w4 : World} {v : Value} {p q n k : Nat} {esc : Bool} {out out' : List UInt8}
    (HP0 : wr.iterPos w.heap.size = p) (HM : fr + (p + n) = q + n ∧ p + n ≤ s.size - fr ∧ 1 ≤ n ∧ out.length ≤ 4 * p ∧ p < s.size ∧ out.length < 1000000)
    (hW : ValW g fr s e a w v (p + n) out' w4) (hout : out'.length = out.length + k) (hk : k ≤ 4) (HX : valAt s fr fr false [] = valAt s fr (q + n) esc out') :
    (∃ (esc2 : Bool) (p2 : Nat) (out2 : List UInt8), Value.bool esc = .bool esc2 ∧ ValIn g fr s e a w esc2 v p2 out2 w4) ∧ s.size - w4.iterPos w.heap.size < s.size - wr.iterPos w.heap.size := by
  refine ⟨⟨esc, p + n, out', rfl, hW, by omega, HM.2.1, by rw [HX, HM.1]⟩, ?_⟩
  rw [HP0, hW.pos]
  omega
def ValPost (g fr : Nat) (s : ByteArray) (e a : Int) (w : World) (en : Ending) (w' : World) : Prop :=
  (∃ x y p, valAt s fr fr false [] = .error (x, y) ∧ en = .returned (.tuple #[.string ByteArray.empty, .bool false]) ∧ PR w' g s p x y ∧ Only g w w') ∨
  (∃ l q, valAt s fr fr false [] = .ok (l, q) ∧ en = .returned (.tuple #[.string (str l), .bool true]) ∧ PR w' g s q e a ∧ Only g w w')

set_option maxHeartbeats 8000000 in
set_option maxRecDepth 100000 in
theorem value_any (g fr : Nat) (s : ByteArray) (e a : Int) (w : World) (h : PR w g s fr e a) (hfr : fr ≤ s.size) (hs : s.size ≤ 100000) :
    Calls Tryz.prog 87 #[.pointer (some ⟨g, 0, none⟩)] w (ValPost g fr s e a w) := by
  have c0 := h.c0
  have c1 := h.c1
  obtain ⟨i0, hi0, hz0, hz1, hz2⟩ := info_parts byte_info
  have hg := h.lt
  have hts : (s.extract fr s.size).size = s.size - fr := by simp
  have hpf1 : (0 : Int) ≤ (fr : Int) := by omega
  have hpf2 : (fr : Int) ≤ (s.size : Int) := by omega
  go_enter Tryz.func87, Tryz.ntmps87
  go_wp2
  go_loopw [5, 6, 7, 8] (fun v ev _ _ wr => ∃ (esc : Bool) (p : Nat) (out : List UInt8), ev = .bool esc ∧ ValIn g fr s e a w esc v p out wr) (fun _ _ _ _ wr => s.size - wr.iterPos w.heap.size)
  case atStart => exact ⟨false, 0, [], rfl, ⟨World.iter_heap _ _ _, ⟨fr, h.alloc _⟩, World.ownsRow_nil _ _ _ _, (Only.refl g w).alloc _, by simp [World.iter]⟩, by simp, by omega, by simp⟩
  case round =>
    obtain ⟨esc, p, out, rfl, hW, hol, hple, HV⟩ := hrel
    clear c0 c1
    have hit := hW.1
    have HP0 := Lib.hid hW.pos
    by_cases hp : p < s.size - fr
    · have hnx := fun ty => Lib.run_next_any_at (P := Tryz.prog) wr w.heap.size (s.extract fr s.size) p ty hit (by omega)
      simp only [Lib.tail_decode] at hnx
      obtain ⟨q, hqe⟩ : ∃ q, fr + p = q := ⟨_, rfl⟩
      have hqi : (fr : Int) + (p : Int) = (q : Int) := by omega
      have hq : q < s.size := by omega
      rw [hqe] at hnx HV
      have hd : Utf8.decode s q = ((Utf8.decode s q).1, (Utf8.decode s q).2) := rfl
      have hn1 := decode_pos s q
      have hn2 := decode_in hq
      have hr := decode_le s q
      generalize (Utf8.decode s q).1 = r at *
      generalize (Utf8.decode s q).2 = n at *
      have hW1 := hW.iterAt hg (p + n)
      generalize wr.iterAt w.heap.size (s.extract fr s.size) (p + n) = w1 at *
      have hR1 : ∃ q0, PR w1 g s q0 e a := hW1.2.1
      obtain ⟨q0, hR1⟩ := hR1
      have hO2 := hW1.store hg q
      have hQ2 := hR1.goto_ q
      have c1 := hR1.c1
      have f1 := Blk.frozen hR1 1
      have hqb : (q : Int) < 100000 := by omega
      have HM := Lib.hid (show fr + (p + n) = q + n ∧ p + n ≤ s.size - fr ∧ 1 ≤ n ∧ out.length ≤ 4 * p ∧ p < s.size ∧ out.length < 1000000 by omega)
      have HS := Lib.hid (And.intro hq (And.intro hfr hs))
      have HD := Lib.hid hd
      have HVV := Lib.hid HV
      clear hd HV hn1 hn2 hol hple hqe hq hp hfr hts hpf1 hpf2 hs h hW hW1 hit hR1
      go_upto_block 2 with (fail)
      generalize w1.setCell ⟨g, 1, none⟩ (.int .i64 (q : Int)) = w2 at *
      clear c1 f1 hqi hqb hnx
      have c0 := hQ2.c0
      have c1 := hQ2.c1
      have HO2 := Lib.hid hO2
      have HQ := Lib.hid hQ2
      have HSZ := Lib.hid hO2.2.2.2.2
      have HOS := Lib.hid (And.intro c0 c1)
      clear hO2 hQ2
      cases esc
      · by_cases h92 : r = 92
        · have HX := Lib.hid (show valAt s fr fr false [] = valAt s fr (q + n) true out by rw [HVV.out]; exact va_back HS.out.1 HD.out h92)
          subst h92
          go_wp2
          exact valIn_end (k := 0) HP0.out HM.out HO2.out rfl (by omega) HX.out
        · by_cases h93 : r = 93
          · have HX := Lib.hid (show valAt s fr fr false [] = if out.length > 64 then .error (3, (fr : Int)) else .ok (out, q + 1) by rw [HVV.out]; exact va_shut HS.out.1 HD.out h93)
            subst h93
            have hqb : (q : Int) < 100000 := by have := HS.out; omega
            have f1 := Blk.frozen HQ.out 1
            have HO3 := HO2.out.store hg (q + 1)
            have HQ3 := HQ.out.goto_ (q + 1)
            rw [show ((q + 1 : Nat) : Int) = (q : Int) + 1 by omega] at HO3 HQ3
            obtain ⟨A, c, hu5, _, _, hRB⟩ := OB.form HO3.2.2.1
            subst hu5
            have hcv := conv_rb (P := Tryz.prog) 132 9 5 c Tryz.underlying132 Tryz.underlying5 Tryz.underlying9 hRB
            have HO4 := Lib.hid HO3.2.2.2.1
            have HQ4 := Lib.hid HQ3
            clear HO3 hRB HQ3
            by_cases h64 : out.length > 64
            · have HX2 := Lib.hid (show valAt s fr fr false [] = .error (3, (fr : Int)) by rw [HX.out, if_pos h64])
              have h64' : (64 : Int) < (out.length : Int) := by omega
              have HF := Lib.hid (fail_any g (q + 1) s e a 3 fr _ HQ4.out)
              clear h64
              go_wp2_with (go_at_call 58; go_loud (refine HF.out.mono ?_; rintro en w3 ⟨rfl, hR2, hO2⟩))
              go_ret2
              exact .inl ⟨3, fr, q + 1, HX2.out, rfl, hR2, HO4.out.trans hO2⟩
            · have HX2 := Lib.hid (show valAt s fr fr false [] = .ok (out, q + 1) by rw [HX.out, if_neg h64])
              have h64' : ¬ (64 : Int) < (out.length : Int) := by omega
              clear h64
              go_wp2
              go_ret2
              exact .inr ⟨out, q + 1, HX2.out, rfl, HQ4.out, HO4.out⟩
          · have h92' : ((r : Int) == 92) = false := by rw [beq_eq_false_iff_ne]; omega
            have h93' : ((r : Int) == 93) = false := by rw [beq_eq_false_iff_ne]; omega
            have HF := Lib.hid (fail_any g q s e a 160 q _ HQ.out)
            have HC := Lib.hid (fun W => control_any (r : Int) W)
            by_cases hbad : controlR (r : Int) = true ∨ r = 91 ∨ r = 47 ∨ r = 61
            · have HX := Lib.hid (show valAt s fr fr false [] = .error (160, (q : Int)) by rw [HVV.out]; exact va_bad HS.out.1 HD.out h92 h93 hbad)
              cases hc : controlR (r : Int)
              · rw [hc] at HC hbad
                have hbad2 : ((r : Int) == 91) = true ∨ (((r : Int) == 91) = false ∧ ((r : Int) == 47) = true) ∨ (((r : Int) == 91) = false ∧ ((r : Int) == 47) = false ∧ ((r : Int) == 61) = true) := by
                  simp only [beq_iff_eq, beq_eq_false_iff_ne]
                  have h : r = 91 ∨ r = 47 ∨ r = 61 := by simpa using hbad
                  omega
                clear hc hbad h92 h93
                rcases hbad2 with h1 | ⟨h1, h2⟩ | ⟨h1, h2, h3⟩
                · go_wp2_with (first | (go_at_call 102; refine (HC.out _).mono ?_; rintro en w3 ⟨rfl, rfl⟩) | (go_at_call 58; refine HF.out.mono ?_; rintro en w3 ⟨rfl, hR2, hO2⟩))
                  go_ret2
                  exact .inl ⟨160, q, q, HX.out, rfl, hR2, HO2.out.2.2.2.1.trans hO2⟩
                · go_wp2_with (first | (go_at_call 102; refine (HC.out _).mono ?_; rintro en w3 ⟨rfl, rfl⟩) | (go_at_call 58; refine HF.out.mono ?_; rintro en w3 ⟨rfl, hR2, hO2⟩))
                  go_ret2
                  exact .inl ⟨160, q, q, HX.out, rfl, hR2, HO2.out.2.2.2.1.trans hO2⟩
                · go_wp2_with (first | (go_at_call 102; refine (HC.out _).mono ?_; rintro en w3 ⟨rfl, rfl⟩) | (go_at_call 58; refine HF.out.mono ?_; rintro en w3 ⟨rfl, hR2, hO2⟩))
                  go_ret2
                  exact .inl ⟨160, q, q, HX.out, rfl, hR2, HO2.out.2.2.2.1.trans hO2⟩
              · rw [hc] at HC
                clear hc hbad h92 h93
                go_wp2_with (first | (go_at_call 102; refine (HC.out _).mono ?_; rintro en w3 ⟨rfl, rfl⟩) | (go_at_call 58; refine HF.out.mono ?_; rintro en w3 ⟨rfl, hR2, hO2⟩))
                go_ret2
                exact .inl ⟨160, q, q, HX.out, rfl, hR2, HO2.out.2.2.2.1.trans hO2⟩
            · have HX := Lib.hid (show valAt s fr fr false [] = valAt s fr (q + n) false (out ++ (Utf8.encode r).data.toList) by rw [HVV.out]; exact va_go HS.out.1 HD.out h92 h93 hbad)
              have hc : controlR (r : Int) = false := by simpa using fun h => hbad (.inl h)
              rw [hc] at HC
              have h1 : ((r : Int) == 91) = false := by rw [beq_eq_false_iff_ne]; omega
              have h2 : ((r : Int) == 47) = false := by rw [beq_eq_false_iff_ne]; omega
              have h3 : ((r : Int) == 61) = false := by rw [beq_eq_false_iff_ne]; omega
              have HE := Lib.hid (encode_size_le (r : Int))
              clear hc hbad h92 h93
              go_wp2_with (first | (go_at_call 102; refine (HC.out _).mono ?_; rintro en w3 ⟨rfl, rfl⟩) | (at_builtin; go_loud (refine Lib.wpList_append_own_string _ rfl (.tmp 30) (.tmp 32) _ _ rfl (w.heap.size + 1) 5 i0 Tryz.underlying132 Tryz.underlying9 hi0 hz0 hz1 hz2 u5 out.length (bvs out) rfl HO2.out.2.2.1 (Utf8.encode r) rfl (by have := HM.out.2.2.2.2.2; have := HE.out; simp only [maxLen]; omega) (by have := HM.out.2.2.2.2.2; have := HE.out; omega) (by have := HSZ.out; omega) ?_); intro v3 w4 hown3 hg3 hat3))
              have hW4 : ValW g fr s e a w v3 (p + n) (out ++ (Utf8.encode r).data.toList) w4 := HO2.out.grown hg (by rw [bvs_append, List.length_append, ba_len, ← strCells_bvs]; exact hown3) hg3
              exact valIn_end (k := (Utf8.encode r).size) HP0.out HM.out hW4 (by rw [List.length_append, ba_len]) HE.out HX.out
      · by_cases h128 : r < 128
        · have hrb : (r : Int) < 128 := by omega
          by_cases hsp : 0 ≤ specialI r
          · have HX := Lib.hid (show valAt s fr fr false [] = valAt s fr (q + n) false (out ++ [r.toUInt8]) by rw [HVV.out]; exact va_esc HS.out.1 HD.out h128 hsp)
            have HSP := Lib.hid (fun W => special_any r W)
            generalize specialI r = sp at *
            have HRD := Lib.hid (reads_new w2 #[.int .u8 (r : Int)] 5 1 1 rfl)
            clear h128
            go_wp2_with (first | (go_at_call 98; refine (HSP.out _).mono ?_; rintro en w3 ⟨rfl, rfl⟩) | (at_builtin; refine wpList_append_any _ rfl (.tmp 50) (.tmp 53) _ rfl (w.heap.size + 1) 5 i0 _ 1 1 Tryz.underlying132 hi0 hz0 hz1 hz2 rfl (by omega) u5 out.length (bvs out) rfl (HO2.out.alloc _).2.2.1 (w2.heap.size + 1) (some ⟨w2.heap.size, 0, none⟩) 1 1 [.int .u8 (r : Int)] rfl (HRD.out) (by simp [Value.oneCell']) (by have := HM.out.2.2.2.2.2; simp only [maxLen]; omega) (by have := HM.out.2.2.2.2.2; omega) (by have := HSZ.out; simp; omega) ?_; intro v3 w4 hown3 hg3 hat3))
            have hb : Value.int .u8 (r : Int) = bv r.toUInt8 := by
              have : r.toUInt8.toNat = r := by simp; omega
              show Value.int .u8 (r : Int) = .int .u8 ((r.toUInt8.toNat : Nat) : Int)
              rw [this]
            have hW4 : ValW g fr s e a w v3 (p + n) (out ++ [r.toUInt8]) w4 := (HO2.out.alloc _).grown hg (by rw [bvs_append, List.length_append]; rw [hb] at hown3; exact hown3) hg3
            exact valIn_end (k := 1) HP0.out HM.out hW4 (by simp) (by omega) HX.out
          · have HX := Lib.hid (show valAt s fr fr false [] = .error (160, (q : Int)) by rw [HVV.out]; exact va_esc_bad HS.out.1 HD.out (by omega))
            have HF := Lib.hid (fail_any g q s e a 160 q _ HQ.out)
            have HSP := Lib.hid (fun W => special_any r W)
            generalize specialI r = sp at *
            clear h128
            go_wp2_with (first | (go_at_call 98; refine (HSP.out _).mono ?_; rintro en w3 ⟨rfl, rfl⟩) | (go_at_call 58; refine HF.out.mono ?_; rintro en w3 ⟨rfl, hR2, hO2⟩))
            go_ret2
            exact .inl ⟨160, q, q, HX.out, rfl, hR2, HO2.out.2.2.2.1.trans hO2⟩
        · have h128' : (128 : Int) ≤ (r : Int) := by omega
          have HX := Lib.hid (show valAt s fr fr false [] = .error (160, (q : Int)) by rw [HVV.out]; exact va_esc_bad HS.out.1 HD.out (by omega))
          have HF := Lib.hid (fail_any g q s e a 160 q _ HQ.out)
          clear h128
          go_wp2_with (go_at_call 58; refine HF.out.mono ?_; rintro en w3 ⟨rfl, hR2, hO2⟩)
          go_ret2
          exact .inl ⟨160, q, q, HX.out, rfl, hR2, HO2.out.2.2.2.1.trans hO2⟩
    · have hnx := fun ty => Lib.run_next_end_at (P := Tryz.prog) wr w.heap.size (s.extract fr s.size) p ty hit (by omega)
      obtain ⟨q0, hR⟩ := hW.2.1
      have hOn := hW.2.2.2.1
      have HF := Lib.hid (fail_any g q0 s e a 160 s.size _ hR)
      have c0 := hR.c0
      have HX := Lib.hid (show valAt s fr fr false [] = .error (160, (s.size : Int)) by rw [HV]; exact valAt_end (by omega))
      clear HV
      go_wp2_with (go_at_call 58; refine HF.out.mono ?_; rintro en w1 ⟨rfl, hR1, hO1⟩)
      go_ret2
      exact .inl ⟨160, s.size, q0, HX.out, rfl, hR1, hOn.trans hO1⟩
end Go.Proofs.YtkfofdmcggoonaaGreatDoor
/-
  The walks of utf.Name and of strings.ContainsFunc at path.control. Condition: the string is within the reach.
-/
namespace Go.Proofs.YtkfofdmcggoonaaGreatDoor
open Go.RowKit

def allB (s : ByteArray) : Bool := decide (0 < s.size) && decide (nameEnd s 0 = s.size)
def nameOk (s : ByteArray) : Bool := if h : 0 < s.size then decide (nameEnd s 0 = s.size) && startB s[0] else false

set_option maxHeartbeats 1000000 in
theorem all_any (s : ByteArray) (w : World) (hs : s.size ≤ 140737488355328) :
    Calls Tryz.prog 111 #[.string s, .func (.func 62) #[] #[]] w fun en w' => en = .returned (.bool (allB s)) ∧ w' = w := by
  go_enter Tryz.func111, Tryz.ntmps111
  go_wp2
  go_loopw [5, 8] (fun _ iv wr => wr = w ∧ ∃ p : Nat, iv = .int .i64 p ∧ p ≤ s.size ∧ nameEnd s 0 = nameEnd s p) (fun _ iv _ => s.size - (Lib.intOf iv).toNat)
  case atStart => exact ⟨rfl, 0, rfl, Nat.zero_le _, rfl⟩
  case round =>
    obtain ⟨rfl, p, rfl, hp, hE⟩ := hrel
    by_cases hlt : p < s.size
    · have hq : (p : Int) < (s.size : Int) := by omega
      have HN := Lib.hid (fun W => nbyte_any s[p] W)
      have HE := Lib.hid (nameEnd_step hlt)
      cases hb : nameB s[p]
      · rw [hb] at HN HE
        have HX := Lib.hid (show allB s = false by unfold allB; rw [hE, HE.out]; simp; omega)
        clear HE hE hb
        go_wp2_with (go_at_call 62; refine (HN.out _).mono ?_; rintro en w1 ⟨rfl, rfl⟩)
        go_ret
        exact ⟨by rw [HX.out]; rfl, rfl⟩
      · rw [hb] at HN HE
        have HX := Lib.hid (show nameEnd s 0 = nameEnd s (p + 1) by rw [hE, HE.out]; rfl)
        clear HE hE hb
        go_wp2_with (go_at_call 62; refine (HN.out _).mono ?_; rintro en w1 ⟨rfl, rfl⟩)
        go_roundw
        case rel => exact ⟨trivial, p + 1, by simp, by omega, HX.out⟩
        case measure => simp [Lib.intOf]; omega
    · have hq : ¬ (p : Int) < (s.size : Int) := by omega
      have hE2 := nameEnd_end hlt
      have HX := Lib.hid (show allB s = !s.toList.isEmpty by
        unfold allB
        rw [hE, hE2, Lib.toList_data]
        obtain rfl : p = s.size := by omega
        cases hd : s.data.toList with
        | nil =>
          have : s.size = 0 := by rw [← ba_len, hd]; rfl
          simp [this]
        | cons _ _ =>
          have : 0 < s.size := by rw [← ba_len, hd]; simp
          simp [this])
      clear hE hE2
      go_wp2
      go_ret
      exact ⟨by rw [HX.out]; rfl, rfl⟩
theorem name_ok (s : ByteArray) (w : World) (hs : s.size ≤ 140737488355328) :
    Calls Tryz.prog 100 #[.string s] w fun en w' => en = .returned (.bool (nameOk s)) ∧ w' = w := by
  have HA := Lib.hid (fun W => all_any s W hs)
  by_cases h0 : 0 < s.size
  · have HS := Lib.hid (fun W => start_any s[0] W)
    have hq : (0 : Int) < (s.size : Int) := by omega
    by_cases he : nameEnd s 0 = s.size
    · have HX := Lib.hid (show nameOk s = startB s[0] by unfold nameOk; rw [dif_pos h0]; simp [he])
      rw [show allB s = true by unfold allB; simp [h0, he]] at HA
      generalize startB s[0] = b at *
      clear he
      go_enter Tryz.func100, Tryz.ntmps100
      go_wp2_with (first | (go_at_call 111; refine (HA.out _).mono ?_; rintro en w1 ⟨rfl, rfl⟩) | (go_at_call 61; refine (HS.out _).mono ?_; rintro en w1 ⟨rfl, rfl⟩))
      go_ret
      exact ⟨by rw [HX.out]; rfl, rfl⟩
    · have HX := Lib.hid (show nameOk s = false by unfold nameOk; rw [dif_pos h0]; simp [he])
      rw [show allB s = false by unfold allB; simp [he]] at HA
      clear he
      go_enter Tryz.func100, Tryz.ntmps100
      go_wp2_with (first | (go_at_call 111; refine (HA.out _).mono ?_; rintro en w1 ⟨rfl, rfl⟩))
      go_ret
      exact ⟨by rw [HX.out]; rfl, rfl⟩
  · have HX := Lib.hid (show nameOk s = false by unfold nameOk; rw [dif_neg h0])
    rw [show allB s = false by unfold allB; simp; omega] at HA
    clear h0
    go_enter Tryz.func100, Tryz.ntmps100
    go_wp2_with (first | (go_at_call 111; refine (HA.out _).mono ?_; rintro en w1 ⟨rfl, rfl⟩))
    go_ret
    exact ⟨by rw [HX.out]; rfl, rfl⟩

/-- Does a control rune stand in it? -/
def ctrlF : Nat → ByteArray → Nat → Bool
  | 0, _, _ => false
  | k + 1, s, p => if p < s.size then (if controlR ((Utf8.decode s p).1 : Int) = true then true else ctrlF k s (p + (Utf8.decode s p).2)) else false
def ctrlAt (s : ByteArray) (p : Nat) : Bool := ctrlF (s.size - p) s p
theorem ctrlF_fuel (s : ByteArray) : ∀ (k j p : Nat), s.size ≤ p + k → k ≤ j → ctrlF j s p = ctrlF k s p := by
  intro k
  induction k with
  | zero =>
    intro j p h1 h2
    cases j with
    | zero => rfl
    | succ j => simp only [ctrlF]; rw [if_neg (by omega)]
  | succ k ih =>
    intro j p h1 h2
    cases j with
    | zero => omega
    | succ j =>
      have := decode_pos s p
      simp only [ctrlF]
      rw [ih j _ (by omega) (by omega)]
theorem ctrl_step {s : ByteArray} {p : Nat} (h : p < s.size) : ctrlAt s p = if controlR ((Utf8.decode s p).1 : Int) = true then true else ctrlAt s (p + (Utf8.decode s p).2) := by
  have hd := decode_pos s p
  unfold ctrlAt
  rw [show s.size - p = (s.size - p - 1) + 1 by omega]
  simp only [ctrlF]
  rw [if_pos h]
  split
  · rfl
  · exact ctrlF_fuel s _ _ _ (by omega) (by omega)
theorem ctrl_end {s : ByteArray} {p : Nat} (h : ¬ p < s.size) : ctrlAt s p = false := by
  unfold ctrlAt
  rw [show s.size - p = 0 by omega]
  rfl
set_option maxHeartbeats 2000000 in
theorem indexfunc_any (s : ByteArray) (w : World) (hs : s.size ≤ 140737488355328) :
    Calls Tryz.prog 116 #[.string s, .func (.func 102) #[] #[], .bool true] w fun en w' => (∃ k : Int, en = .returned (.int .i64 k) ∧ decide (0 ≤ k) = ctrlAt s 0) ∧ Below w.heap.size w w' := by
  go_enter Tryz.func116, Tryz.ntmps116
  go_wp2
  go_loopw [6, 7, 8] (fun _ _ _ wr => ∃ p : Nat, w.iter s p = wr ∧ p ≤ s.size ∧ ctrlAt s 0 = ctrlAt s p) (fun _ _ _ wr => s.size - wr.iterPos w.heap.size)
  case atStart => exact ⟨0, rfl, Nat.zero_le _, rfl⟩
  case round =>
    obtain ⟨p, rfl, hp0, hE⟩ := hrel
    have HB := Lib.hid (fun q => show Below w.heap.size w (w.iter s q) from (Below.refl _ _).alloc (Nat.le_refl _) _)
    by_cases hp : p < s.size
    · have hnx := fun ty => run_next_any (P := Tryz.prog) w s p ty hp
      have hn1 := decode_pos s p
      have hn2 := decode_in hp
      have HN := Lib.hid (ctrl_step hp)
      have hr := decode_le s p
      generalize Utf8.decode s p = d at *
      obtain ⟨r, n⟩ := d
      simp only at hnx hn1 hn2 hr HN
      have HM := Lib.hid (show s.size - ((w.iter s (p + n)).iterPos w.heap.size) < s.size - ((w.iter s p).iterPos w.heap.size) by
        rw [World.iterPos_iter, World.iterPos_iter]
        omega)
      have HC := Lib.hid (fun W => control_any (r : Int) W)
      cases hc : controlR (r : Int)
      · rw [hc] at HC HN
        have HX := Lib.hid (show ctrlAt s 0 = ctrlAt s (p + n) by rw [hE, HN.out]; rfl)
        clear hE hc HN
        go_wp2_with (go_at_call 102; refine (HC.out _).mono ?_; rintro en w3 ⟨rfl, rfl⟩)
        go_roundw
        case rel => exact ⟨p + n, rfl, hn2, HX.out⟩
        case measure => exact HM.out
      · rw [hc] at HC HN
        have HX := Lib.hid (show ctrlAt s 0 = true by rw [hE, HN.out]; rfl)
        clear hE hc HN
        go_wp2_with (go_at_call 102; refine (HC.out _).mono ?_; rintro en w3 ⟨rfl, rfl⟩)
        go_ret
        exact ⟨⟨p, rfl, by rw [HX.out]; simp⟩, HB.out _⟩
    · obtain rfl : p = s.size := by omega
      have hnx := fun ty => run_next_end (P := Tryz.prog) w s s.size ty (by omega)
      have HX := Lib.hid (show ctrlAt s 0 = false by rw [hE]; exact ctrl_end (by omega))
      clear hE
      go_wp2
      go_ret
      exact ⟨⟨-1, rfl, by rw [HX.out]; simp⟩, HB.out _⟩
theorem indexfunc2_any (s : ByteArray) (w : World) (hs : s.size ≤ 140737488355328) :
    Calls Tryz.prog 112 #[.string s, .func (.func 102) #[] #[]] w fun en w' => (∃ k : Int, en = .returned (.int .i64 k) ∧ decide (0 ≤ k) = ctrlAt s 0) ∧ Below w.heap.size w w' := by
  have H := Lib.hid (fun W => indexfunc_any s W hs)
  go_enter Tryz.func112, Tryz.ntmps112
  go_wp2_with (go_at_call 116; refine (H.out _).mono ?_; rintro en w1 ⟨⟨k, rfl, hk⟩, hb⟩)
  go_ret
  exact ⟨⟨k, rfl, hk⟩, hb⟩
theorem contains_any (s : ByteArray) (w : World) (hs : s.size ≤ 140737488355328) :
    Calls Tryz.prog 101 #[.string s, .func (.func 102) #[] #[]] w fun en w' => en = .returned (.bool (ctrlAt s 0)) ∧ Below w.heap.size w w' := by
  have H := Lib.hid (fun W => indexfunc2_any s W hs)
  go_enter Tryz.func101, Tryz.ntmps101
  go_wp2_with (go_at_call 112; refine (H.out _).mono ?_; rintro en w1 ⟨⟨k, rfl, hk⟩, hb⟩; have HK := Lib.hid hk; clear hk)
  go_ret
  exact ⟨by rw [← HK.out]; rfl, hb⟩
end Go.Proofs.YtkfofdmcggoonaaGreatDoor
/-
  What path's step reader computes; no program in sight. Plain Lean; no condition.
-/
namespace Go.Proofs.YtkfofdmcggoonaaGreatDoor
open Go.RowKit

abbrev PKey := ByteArray × ByteArray
def nameM (s : ByteArray) (at_ : Nat) : Except (Int × Int) (ByteArray × Nat) := match nameErr s at_ with
  | some e => .error e
  | none => .ok (s.extract at_ (nameEnd s at_), nameEnd s at_)
/-- May this key stand behind those? -/
def risesB (ks : List PKey) (key : ByteArray) : Bool := match ks.getLast? with
  | none => true
  | some k => Op.bytesLess k.1.toList key.toList
/-- The keys from place p on. -/
def keysF : Nat → ByteArray → Nat → List PKey → Except (Int × Int) (List PKey × Nat)
  | 0, _, p, ks => .ok (ks, p)
  | k + 1, s, p, ks =>
    if standsB s p 91 = true then
      match nameM s (p + 1) with
      | .error e => .error e
      | .ok (key, q) =>
        if risesB ks key = true then
          if standsB s q 61 = true then
            match valAt s (q + 1) (q + 1) false [] with
            | .error e => .error e
            | .ok (v, q') => keysF k s q' (ks ++ [(key, str v)])
          else .error (160, (q : Int))
        else .error (160, ((p + 1 : Nat) : Int))
    else .ok (ks, p)
def keysM (s : ByteArray) (p : Nat) (ks : List PKey) : Except (Int × Int) (List PKey × Nat) := keysF (s.size + 1 - p) s p ks
def stepM (s : ByteArray) (p : Nat) : Except (Int × Int) ((ByteArray × List PKey) × Nat) := match nameM s p with
  | .error e => .error e
  | .ok (nm, q) => match keysM s q [] with
    | .error e => .error e
    | .ok (ks, r) => .ok ((nm, ks), r)
theorem nameEnd_le {s : ByteArray} {p : Nat} (h : p ≤ s.size) : p ≤ nameEnd s p ∧ nameEnd s p ≤ s.size := ⟨(nameEnd_ge s _ p).1, (nameEnd_ge s _ p).2 h⟩
theorem nameM_ok {s : ByteArray} {p q : Nat} {nm : ByteArray} (h : nameM s p = .ok (nm, q)) (hp : p ≤ s.size) : p ≤ q ∧ q ≤ s.size ∧ nm = s.extract p q ∧ q = nameEnd s p ∧ nameErr s p = none := by
  unfold nameM at h
  cases hn : nameErr s p with
  | some e => rw [hn] at h; cases h
  | none =>
    rw [hn] at h
    simp only [Except.ok.injEq, Prod.mk.injEq] at h
    obtain ⟨h1, h2⟩ := h
    subst h2
    exact ⟨(nameEnd_le hp).1, (nameEnd_le hp).2, h1.symm, rfl, rfl⟩
theorem valF_ok (s : ByteArray) (fr : Nat) : ∀ (k q : Nat) (esc : Bool) (out l : List UInt8) (r : Nat), valF k s fr q esc out = .ok (l, r) → q < r ∧ r ≤ s.size := by
  intro k
  induction k with
  | zero => intro q esc out l r h; cases h
  | succ k ih =>
    intro q esc out l r h
    have hd := decode_pos s q
    simp only [valF] at h
    split at h
    · rename_i hq
      split at h
      · split at h
        · have := ih _ _ _ _ _ h; omega
        · cases h
      · split at h
        · have := ih _ _ _ _ _ h; omega
        · split at h
          · split at h
            · cases h
            · simp only [Except.ok.injEq, Prod.mk.injEq] at h
              omega
          · split at h
            · cases h
            · have := ih _ _ _ _ _ h; omega
    · cases h
theorem valAt_ok {s : ByteArray} {fr q r : Nat} {esc : Bool} {out l : List UInt8} (h : valAt s fr q esc out = .ok (l, r)) : q < r ∧ r ≤ s.size := valF_ok s fr _ q esc out l r h
theorem stands_lt {s : ByteArray} {p : Nat} {b : UInt8} (h : standsB s p b = true) : p < s.size := (stands_at h).1
theorem keysF_fuel (s : ByteArray) : ∀ (k p : Nat) (ks : List PKey) (j : Nat), s.size + 1 ≤ p + k → p ≤ s.size → k ≤ j → keysF j s p ks = keysF k s p ks := by
  intro k
  induction k with
  | zero => intro p ks j h1 h2 h3; omega
  | succ k ih =>
    intro p ks j h1 h2 h3
    cases j with
    | zero => omega
    | succ j =>
      simp only [keysF]
      split
      · rename_i hb
        have hl := stands_lt hb
        cases hn : nameM s (p + 1) with
        | error e => rfl
        | ok x =>
          obtain ⟨key, q⟩ := x
          have hq := nameM_ok hn (by omega)
          simp only
          split
          · split
            · cases hv : valAt s (q + 1) (q + 1) false [] with
              | error e => rfl
              | ok y =>
                obtain ⟨v, r⟩ := y
                have hr := valAt_ok hv
                simp only
                exact ih r _ j (by omega) hr.2 (by omega)
            · rfl
          · rfl
      · rfl
section
variable {s : ByteArray} {p : Nat} {ks : List PKey}
theorem keysM_step (hp : p ≤ s.size) : keysM s p ks = if standsB s p 91 = true then
      match nameM s (p + 1) with
      | .error e => .error e
      | .ok (key, q) =>
        if risesB ks key = true then
          if standsB s q 61 = true then
            match valAt s (q + 1) (q + 1) false [] with
            | .error e => .error e
            | .ok (v, q') => keysM s q' (ks ++ [(key, str v)])
          else .error (160, (q : Int))
        else .error (160, ((p + 1 : Nat) : Int))
    else .ok (ks, p) := by
  unfold keysM
  rw [show s.size + 1 - p = (s.size - p) + 1 by omega]
  simp only [keysF]
  split
  · rename_i hb
    have hl := stands_lt hb
    cases hn : nameM s (p + 1) with
    | error e => rfl
    | ok x =>
      obtain ⟨key, q⟩ := x
      have hq := nameM_ok hn (by omega)
      simp only
      split
      · split
        · cases hv : valAt s (q + 1) (q + 1) false [] with
          | error e => rfl
          | ok y =>
            obtain ⟨v, r⟩ := y
            have hr := valAt_ok hv
            simp only
            exact keysF_fuel s _ r _ _ (by omega) hr.2 (by omega)
        · rfl
      · rfl
  · rfl
theorem km_none (hp : p ≤ s.size) (h : standsB s p 91 = false) : keysM s p ks = .ok (ks, p) := by
  rw [keysM_step hp, if_neg (by rw [h]; simp)]
theorem km_name {e : Int × Int} (hp : p ≤ s.size) (h : standsB s p 91 = true) (hn : nameErr s (p + 1) = some e) : keysM s p ks = .error e := by
  rw [keysM_step hp, if_pos h]
  unfold nameM
  rw [hn]
theorem km_falls {key : ByteArray} {q : Nat} (hp : p ≤ s.size) (h : standsB s p 91 = true) (hn : nameM s (p + 1) = .ok (key, q)) (hr : risesB ks key = false) : keysM s p ks = .error (160, ((p + 1 : Nat) : Int)) := by
  rw [keysM_step hp, if_pos h, hn]
  simp only
  rw [if_neg (by rw [hr]; simp)]
theorem km_noeq {key : ByteArray} {q : Nat} (hp : p ≤ s.size) (h : standsB s p 91 = true) (hn : nameM s (p + 1) = .ok (key, q)) (hr : risesB ks key = true) (he : standsB s q 61 = false) : keysM s p ks = .error (160, (q : Int)) := by
  rw [keysM_step hp, if_pos h, hn]
  simp only
  rw [if_pos hr, if_neg (by rw [he]; simp)]
theorem km_val {key : ByteArray} {q : Nat} {e : Int × Int} (hp : p ≤ s.size) (h : standsB s p 91 = true) (hn : nameM s (p + 1) = .ok (key, q)) (hr : risesB ks key = true) (he : standsB s q 61 = true) (hv : valAt s (q + 1) (q + 1) false [] = .error e) : keysM s p ks = .error e := by
  rw [keysM_step hp, if_pos h, hn]
  simp only
  rw [if_pos hr, if_pos he, hv]
theorem km_go {key : ByteArray} {q r : Nat} {v : List UInt8} (hp : p ≤ s.size) (h : standsB s p 91 = true) (hn : nameM s (p + 1) = .ok (key, q)) (hr : risesB ks key = true) (he : standsB s q 61 = true) (hv : valAt s (q + 1) (q + 1) false [] = .ok (v, r)) : keysM s p ks = keysM s r (ks ++ [(key, str v)]) := by
  rw [keysM_step hp, if_pos h, hn]
  simp only
  rw [if_pos hr, if_pos he, hv]
end
/-- The cells of keys. -/
def pairCells (ks : List PKey) : List Value := ks.flatMap fun k => [.string k.1, .string k.2]
theorem pairCells_len (ks : List PKey) : (pairCells ks).length = ks.length * 2 := by
  induction ks with
  | nil => rfl
  | cons k ks ih => simp only [pairCells, List.flatMap_cons, List.length_append] at ih ⊢; rw [ih]; simp; omega
theorem pairCells_append (ks ls : List PKey) : pairCells (ks ++ ls) = pairCells ks ++ pairCells ls := by simp [pairCells]
theorem pairCells_at (ks : List PKey) (i : Nat) (k : PKey) (h : ks[i]? = some k) : (pairCells ks)[i * 2]? = some (.string k.1) ∧ (pairCells ks)[i * 2 + 1]? = some (.string k.2) := by
  induction ks generalizing i with
  | nil => simp at h
  | cons x ks ih =>
    cases i with
    | zero => simp at h; subst h; simp [pairCells]
    | succ i =>
      have := ih i (by simpa using h)
      simp only [pairCells, List.flatMap_cons] at this ⊢
      rw [show (i + 1) * 2 = 2 + i * 2 by omega, show 2 + i * 2 + 1 = 2 + (i * 2 + 1) by omega]
      rw [List.getElem?_append_right (by simp), List.getElem?_append_right (by simp)]
      simpa using this
end Go.Proofs.YtkfofdmcggoonaaGreatDoor
