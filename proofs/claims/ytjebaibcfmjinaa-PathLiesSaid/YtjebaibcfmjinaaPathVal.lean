/-
  The walk of (*path.reader).value. Condition: the string is not long (path.Parse refuses it else).
-/
import Derived.Test.YtjebaibcfmjinaaPathRd
import Derived.Test.YtjebaibcfmjinaaPathLaw
import Derived.Test.YtjebaibcfmjinaaAppend
import Derived.Test.YtjebaibcfmjinaaConv
import Derived.Lib.OthersKept
import Derived.Lib.RuneCountTail
import Derived.Lib.AppendStr
import Derived.Laws.Runes
import Derived.Deep.CutBlock
import Derived.Laws.Cover4
namespace Go.Proofs.Ytjebaibcfmjinaa
open Go.RowKit

theorem byte_info : (Try.prog.info? 5).map (fun i => (i.zero, i.size, i.bytes)) = some (some (.int .u8 0), 1, 1) := by kernel_rfl
theorem ba_len (b : ByteArray) : b.data.toList.length = b.size := by
  rw [Array.length_toList]
  rfl
theorem strCells_bvs (s : ByteArray) : Lib.strCells s = bvs s.data.toList := by
  simp [Lib.strCells, bvs, bv]
theorem own_far {w : World} {base : Nat} {e : TypeId} {size : Nat} {v : Value} {n : Nat} {xs : List Value} (h : w.ownsRow base e size v n xs) {p : Addr} (hp : p.block < base) (u : Value) : (w.setCell p u).ownsRow base e size v n xs := by
  obtain ⟨h1, h2⟩ := h
  refine ⟨h1, ?_⟩
  rcases h2 with h2 | ⟨g, cap, cur, a, b, c, d⟩
  · exact .inl h2
  · exact .inr ⟨g, cap, cur, a, b, (Below.heap_setCell w p u g (by omega)).trans c, d⟩
theorem own_iter {w : World} {base : Nat} {e : TypeId} {size : Nat} {v : Value} {n : Nat} {xs : List Value} (h : w.ownsRow base e size v n xs) {k : Nat} (hk : k < base) (s : ByteArray) (p : Nat) : (w.iterAt k s p).ownsRow base e size v n xs := by
  obtain ⟨h1, h2⟩ := h
  refine ⟨h1, ?_⟩
  rcases h2 with h2 | ⟨g, cap, cur, a, b, c, d⟩
  · exact .inl h2
  · exact .inr ⟨g, cap, cur, a, b, by rw [Lib.iterAt_other _ _ _ _ _ (by omega)]; exact c, d⟩
theorem Only.grown {g : Nat} {a w w' : World} {row : Option Nat} (h : Only g a w) (hg : w.grownBy w' row) (hr : ∀ k, row = some k → a.heap.size ≤ k) : Only g a w' :=
  ⟨hg.os.trans h.os, hg.tape.trans h.tape, hg.output.trans h.output, Nat.le_trans h.size hg.size, fun i hi hne => (hg.block i (Nat.lt_of_lt_of_le hi h.size) (fun e => by have := hr i e.symm; omega)).trans (h.block i hi hne)⟩
theorem Only.iterAt {g : Nat} {a w : World} (h : Only g a w) {k : Nat} (hk : a.heap.size ≤ k) (s : ByteArray) (p : Nat) : Only g a (w.iterAt k s p) :=
  ⟨h.os, h.tape, h.output, by rw [Lib.iterAt_size]; exact h.size, fun i hi hne => (Lib.iterAt_other w k i s p (by omega)).trans (h.block i hi hne)⟩

/-- Where value's loop is: the iterator stands at p of the rest, the row v holds 'out'. -/
def ValW (g fr : Nat) (s : ByteArray) (e a : Int) (w : World) (v : Value) (p : Nat) (out : List UInt8) (wr : World) : Prop :=
  wr.heap[w.heap.size]? = some (.stringIter (s.extract fr s.size) p) ∧ (∃ q, PR wr g s q e a) ∧ OB wr (w.heap.size + 1) 5 v out ∧ Only g w wr ∧ w.heap.size + 1 ≤ wr.heap.size
def ValIn (g fr : Nat) (s : ByteArray) (e a : Int) (w : World) (esc : Bool) (v : Value) (p : Nat) (out : List UInt8) (wr : World) : Prop :=
  ValW g fr s e a w v p out wr ∧ out.length ≤ 4 * p ∧ p ≤ s.size - fr ∧ valAt s fr fr false [] = valAt s fr (fr + p) esc out
section
variable {g fr : Nat} {s : ByteArray} {e a : Int} {w : World} {v : Value} {p : Nat} {out : List UInt8} {wr : World}
theorem ValW.pos (h : ValW g fr s e a w v p out wr) : wr.iterPos w.heap.size = p := by simp [World.iterPos, h.1]
theorem ValW.drewN (h : ValW g fr s e a w v p out wr) (k : Nat) : ValW g fr s e a w v p out (wr.drewN k) := by
  obtain ⟨h1, ⟨q, h2⟩, h3, h4, h5⟩ := h
  exact ⟨h1, ⟨q, h2.drewN k⟩, h3, h4.drewN k, h5⟩
theorem ValW.alloc (h : ValW g fr s e a w v p out wr) (o : Obj) : ValW g fr s e a w v p out (wr.alloc o) := by
  obtain ⟨h1, ⟨q, h2⟩, h3, h4, h5⟩ := h
  exact ⟨(Below.heap_alloc wr o _ (by omega)).trans h1, ⟨q, h2.alloc o⟩, h3.alloc o, h4.alloc o, by simp; omega⟩
theorem ValW.iterAt (h : ValW g fr s e a w v p out wr) (hg : g < w.heap.size) (p' : Nat) : ValW g fr s e a w v p' out (wr.iterAt w.heap.size (s.extract fr s.size) p') := by
  obtain ⟨h1, ⟨q, h2⟩, h3, h4, h5⟩ := h
  exact ⟨Lib.iterAt_heap _ _ _ _ _ h1, ⟨q, (Lib.iterAt_other _ _ _ _ _ (by omega)).trans h2⟩, own_iter h3 (by omega) _ _, h4.iterAt (Nat.le_refl _) _ _, by rw [Lib.iterAt_size]; exact h5⟩
theorem ValW.store (h : ValW g fr s e a w v p out wr) (hg : g < w.heap.size) (q : Nat) : ValW g fr s e a w v p out (wr.setCell ⟨g, 1, none⟩ (.int .i64 (q : Int))) := by
  obtain ⟨h1, ⟨q0, h2⟩, h3, h4, h5⟩ := h
  exact ⟨(Below.heap_setCell wr _ _ _ (by simp; omega)).trans h1, ⟨q, h2.goto_ q⟩, own_far h3 (by simp; omega) _, h4.setCell (.inl rfl) _, by simpa [World.setCell] using h5⟩
theorem ValW.grown (h : ValW g fr s e a w v p out wr) (hg : g < w.heap.size) {v' : Value} {out' : List UInt8} {w' : World} (hv : w'.ownsRow (w.heap.size + 1) 5 1 v' out'.length (bvs out')) (hgr : wr.grownBy w' v.ownBlock) : ValW g fr s e a w v' p out' w' := by
  obtain ⟨h1, ⟨q0, h2⟩, h3, h4, h5⟩ := h
  have hlt : ∀ k, v.ownBlock = some k → w.heap.size + 1 ≤ k := fun k hk => (World.ownsRow.lt h3 k hk).1
  refine ⟨(hgr.block _ (by omega) (fun e => by have := hlt _ e.symm; omega)).trans h1, ⟨q0, h2.grown hgr (fun e => by have := hlt _ e.symm; omega)⟩, hv, h4.grown hgr (fun k hk => by have := hlt k hk; omega), ?_⟩
  have := hgr.size
  omega
end
theorem valIn_end {g fr : Nat} {s : ByteArray} {e a : Int} {w wr w4 : World} {v : Value} {p q n k : Nat} {esc : Bool} {out out' : List UInt8}
    (HP0 : wr.iterPos w.heap.size = p) (HM : fr + (p + n) = q + n ∧ p + n ≤ s.size - fr ∧ 1 ≤ n ∧ out.length ≤ 4 * p ∧ p < s.size ∧ out.length < 1000000)
    (hW : ValW g fr s e a w v (p + n) out' w4) (hout : out'.length = out.length + k) (hk : k ≤ 4) (HX : valAt s fr fr false [] = valAt s fr (q + n) esc out') :
    (∃ (esc2 : Bool) (p2 : Nat) (out2 : List UInt8), Value.bool esc = .bool esc2 ∧ ValIn g fr s e a w esc2 v p2 out2 w4) ∧ s.size - w4.iterPos w.heap.size < s.size - wr.iterPos w.heap.size := by
  refine ⟨⟨esc, p + n, out', rfl, hW, by omega, HM.2.1, by rw [HX, HM.1]⟩, ?_⟩
  rw [HP0, hW.pos]
  omega
def ValPost (g fr : Nat) (s : ByteArray) (e a : Int) (w : World) (en : Ending) (w' : World) : Prop :=
  (∃ x y p, valAt s fr fr false [] = .error (x, y) ∧ en = .returned (.tuple #[.string ByteArray.empty, .bool false]) ∧ PR w' g s p x y ∧ Only g w w') ∨
  (∃ l q, valAt s fr fr false [] = .ok (l, q) ∧ en = .returned (.tuple #[.string (str l), .bool true]) ∧ PR w' g s q e a ∧ Only g w w')

set_option maxHeartbeats 8000000 in
set_option maxRecDepth 100000 in
theorem value_any (g fr : Nat) (s : ByteArray) (e a : Int) (w : World) (h : PR w g s fr e a) (hfr : fr ≤ s.size) (hs : s.size ≤ 100000) :
    Calls Try.prog 70 #[.pointer (some ⟨g, 0, none⟩)] w (ValPost g fr s e a w) := by
  have c0 := h.c0
  have c1 := h.c1
  obtain ⟨i0, hi0, hz0, hz1, hz2⟩ := info_parts byte_info
  have hg := h.lt
  have hts : (s.extract fr s.size).size = s.size - fr := by simp
  have hpf1 : (0 : Int) ≤ (fr : Int) := by omega
  have hpf2 : (fr : Int) ≤ (s.size : Int) := by omega
  go_enter Try.func70, Try.ntmps70
  go_wp2
  go_loopw [5, 6, 7, 8] (fun v ev _ _ wr => ∃ (esc : Bool) (p : Nat) (out : List UInt8), ev = .bool esc ∧ ValIn g fr s e a w esc v p out wr) (fun _ _ _ _ wr => s.size - wr.iterPos w.heap.size)
  case atStart => exact ⟨false, 0, [], rfl, ⟨World.iter_heap _ _ _, ⟨fr, h.alloc _⟩, World.ownsRow_nil _ _ _ _, (Only.refl g w).alloc _, by simp [World.iter]⟩, by simp, by omega, by simp⟩
  case round =>
    obtain ⟨esc, p, out, rfl, hW, hol, hple, HV⟩ := hrel
    clear c0 c1
    have hit := hW.1
    have HP0 := Lib.hid hW.pos
    by_cases hp : p < s.size - fr
    · have hnx := fun ty => Lib.run_next_any_at (P := Try.prog) wr w.heap.size (s.extract fr s.size) p ty hit (by omega)
      simp only [Lib.tail_decode] at hnx
      obtain ⟨q, hqe⟩ : ∃ q, fr + p = q := ⟨_, rfl⟩
      have hqi : (fr : Int) + (p : Int) = (q : Int) := by omega
      have hq : q < s.size := by omega
      rw [hqe] at hnx HV
      have hd : Utf8.decode s q = ((Utf8.decode s q).1, (Utf8.decode s q).2) := rfl
      have hn1 := decode_pos s q
      have hn2 := decode_in hq
      have hr := decode_le s q
      generalize (Utf8.decode s q).1 = r at *
      generalize (Utf8.decode s q).2 = n at *
      have hW1 := hW.iterAt hg (p + n)
      generalize wr.iterAt w.heap.size (s.extract fr s.size) (p + n) = w1 at *
      have hR1 : ∃ q0, PR w1 g s q0 e a := hW1.2.1
      obtain ⟨q0, hR1⟩ := hR1
      have hO2 := hW1.store hg q
      have hQ2 := hR1.goto_ q
      have c1 := hR1.c1
      have f1 := Blk.frozen hR1 1
      have hqb : (q : Int) < 100000 := by omega
      have HM := Lib.hid (show fr + (p + n) = q + n ∧ p + n ≤ s.size - fr ∧ 1 ≤ n ∧ out.length ≤ 4 * p ∧ p < s.size ∧ out.length < 1000000 by omega)
      have HS := Lib.hid (And.intro hq (And.intro hfr hs))
      have HD := Lib.hid hd
      have HVV := Lib.hid HV
      clear hd HV hn1 hn2 hol hple hqe hq hp hfr hts hpf1 hpf2 hs h hW hW1 hit hR1
      go_upto_block 2 with (fail)
      generalize w1.setCell ⟨g, 1, none⟩ (.int .i64 (q : Int)) = w2 at *
      clear c1 f1 hqi hqb hnx
      have c0 := hQ2.c0
      have c1 := hQ2.c1
      have HO2 := Lib.hid hO2
      have HQ := Lib.hid hQ2
      have HSZ := Lib.hid hO2.2.2.2.2
      have HOS := Lib.hid (And.intro c0 c1)
      clear hO2 hQ2
      cases esc
      · by_cases h92 : r = 92
        · have HX := Lib.hid (show valAt s fr fr false [] = valAt s fr (q + n) true out by rw [HVV.out]; exact va_back HS.out.1 HD.out h92)
          subst h92
          go_wp2
          exact valIn_end (k := 0) HP0.out HM.out HO2.out rfl (by omega) HX.out
        · by_cases h93 : r = 93
          · have HX := Lib.hid (show valAt s fr fr false [] = if out.length > 64 then .error (3, (fr : Int)) else .ok (out, q + 1) by rw [HVV.out]; exact va_shut HS.out.1 HD.out h93)
            subst h93
            have hqb : (q : Int) < 100000 := by have := HS.out; omega
            have f1 := Blk.frozen HQ.out 1
            have HO3 := HO2.out.store hg (q + 1)
            have HQ3 := HQ.out.goto_ (q + 1)
            rw [show ((q + 1 : Nat) : Int) = (q : Int) + 1 by omega] at HO3 HQ3
            obtain ⟨A, c, hu5, _, _, hRB⟩ := OB.form HO3.2.2.1
            subst hu5
            have hcv := conv_rb (P := Try.prog) 104 9 5 c Try.underlying104 Try.underlying5 Try.underlying9 hRB
            have HO4 := Lib.hid HO3.2.2.2.1
            have HQ4 := Lib.hid HQ3
            clear HO3 hRB HQ3
            by_cases h64 : out.length > 64
            · have HX2 := Lib.hid (show valAt s fr fr false [] = .error (3, (fr : Int)) by rw [HX.out, if_pos h64])
              have h64' : (64 : Int) < (out.length : Int) := by omega
              have HF := Lib.hid (fail_any g (q + 1) s e a 3 fr _ HQ4.out)
              clear h64
              go_wp2_with (go_at_call 49; go_loud (refine HF.out.mono ?_; rintro en w3 ⟨rfl, hR2, hO2⟩))
              go_ret2
              exact .inl ⟨3, fr, q + 1, HX2.out, rfl, hR2, HO4.out.trans hO2⟩
            · have HX2 := Lib.hid (show valAt s fr fr false [] = .ok (out, q + 1) by rw [HX.out, if_neg h64])
              have h64' : ¬ (64 : Int) < (out.length : Int) := by omega
              clear h64
              go_wp2
              go_ret2
              exact .inr ⟨out, q + 1, HX2.out, rfl, HQ4.out, HO4.out⟩
          · have h92' : ((r : Int) == 92) = false := by rw [beq_eq_false_iff_ne]; omega
            have h93' : ((r : Int) == 93) = false := by rw [beq_eq_false_iff_ne]; omega
            have HF := Lib.hid (fail_any g q s e a 160 q _ HQ.out)
            have HC := Lib.hid (fun W => control_any (r : Int) W)
            by_cases hbad : controlR (r : Int) = true ∨ r = 91 ∨ r = 47 ∨ r = 61
            · have HX := Lib.hid (show valAt s fr fr false [] = .error (160, (q : Int)) by rw [HVV.out]; exact va_bad HS.out.1 HD.out h92 h93 hbad)
              cases hc : controlR (r : Int)
              · rw [hc] at HC hbad
                have hbad2 : ((r : Int) == 91) = true ∨ (((r : Int) == 91) = false ∧ ((r : Int) == 47) = true) ∨ (((r : Int) == 91) = false ∧ ((r : Int) == 47) = false ∧ ((r : Int) == 61) = true) := by
                  simp only [beq_iff_eq, beq_eq_false_iff_ne]
                  have h : r = 91 ∨ r = 47 ∨ r = 61 := by simpa using hbad
                  omega
                clear hc hbad h92 h93
                rcases hbad2 with h1 | ⟨h1, h2⟩ | ⟨h1, h2, h3⟩
                · go_wp2_with (first | (go_at_call 75; refine (HC.out _).mono ?_; rintro en w3 ⟨rfl, rfl⟩) | (go_at_call 49; refine HF.out.mono ?_; rintro en w3 ⟨rfl, hR2, hO2⟩))
                  go_ret2
                  exact .inl ⟨160, q, q, HX.out, rfl, hR2, HO2.out.2.2.2.1.trans hO2⟩
                · go_wp2_with (first | (go_at_call 75; refine (HC.out _).mono ?_; rintro en w3 ⟨rfl, rfl⟩) | (go_at_call 49; refine HF.out.mono ?_; rintro en w3 ⟨rfl, hR2, hO2⟩))
                  go_ret2
                  exact .inl ⟨160, q, q, HX.out, rfl, hR2, HO2.out.2.2.2.1.trans hO2⟩
                · go_wp2_with (first | (go_at_call 75; refine (HC.out _).mono ?_; rintro en w3 ⟨rfl, rfl⟩) | (go_at_call 49; refine HF.out.mono ?_; rintro en w3 ⟨rfl, hR2, hO2⟩))
                  go_ret2
                  exact .inl ⟨160, q, q, HX.out, rfl, hR2, HO2.out.2.2.2.1.trans hO2⟩
              · rw [hc] at HC
                clear hc hbad h92 h93
                go_wp2_with (first | (go_at_call 75; refine (HC.out _).mono ?_; rintro en w3 ⟨rfl, rfl⟩) | (go_at_call 49; refine HF.out.mono ?_; rintro en w3 ⟨rfl, hR2, hO2⟩))
                go_ret2
                exact .inl ⟨160, q, q, HX.out, rfl, hR2, HO2.out.2.2.2.1.trans hO2⟩
            · have HX := Lib.hid (show valAt s fr fr false [] = valAt s fr (q + n) false (out ++ (Utf8.encode r).data.toList) by rw [HVV.out]; exact va_go HS.out.1 HD.out h92 h93 hbad)
              have hc : controlR (r : Int) = false := by simpa using fun h => hbad (.inl h)
              rw [hc] at HC
              have h1 : ((r : Int) == 91) = false := by rw [beq_eq_false_iff_ne]; omega
              have h2 : ((r : Int) == 47) = false := by rw [beq_eq_false_iff_ne]; omega
              have h3 : ((r : Int) == 61) = false := by rw [beq_eq_false_iff_ne]; omega
              have HE := Lib.hid (encode_size_le (r : Int))
              clear hc hbad h92 h93
              go_wp2_with (first | (go_at_call 75; refine (HC.out _).mono ?_; rintro en w3 ⟨rfl, rfl⟩) | (at_builtin; go_loud (refine Lib.wpList_append_own_string _ rfl (.tmp 30) (.tmp 32) _ _ rfl (w.heap.size + 1) 5 i0 Try.underlying104 Try.underlying9 hi0 hz0 hz1 hz2 u5 out.length (bvs out) rfl HO2.out.2.2.1 (Utf8.encode r) rfl (by have := HM.out.2.2.2.2.2; have := HE.out; simp only [maxLen]; omega) (by have := HM.out.2.2.2.2.2; have := HE.out; omega) (by have := HSZ.out; omega) ?_); intro v3 w4 hown3 hg3 hat3))
              have hW4 : ValW g fr s e a w v3 (p + n) (out ++ (Utf8.encode r).data.toList) w4 := HO2.out.grown hg (by rw [bvs_append, List.length_append, ba_len, ← strCells_bvs]; exact hown3) hg3
              exact valIn_end (k := (Utf8.encode r).size) HP0.out HM.out hW4 (by rw [List.length_append, ba_len]) HE.out HX.out
      · by_cases h128 : r < 128
        · have hrb : (r : Int) < 128 := by omega
          by_cases hsp : 0 ≤ specialI r
          · have HX := Lib.hid (show valAt s fr fr false [] = valAt s fr (q + n) false (out ++ [r.toUInt8]) by rw [HVV.out]; exact va_esc HS.out.1 HD.out h128 hsp)
            have HSP := Lib.hid (fun W => special_any r W)
            generalize specialI r = sp at *
            have HRD := Lib.hid (reads_new w2 #[.int .u8 (r : Int)] 5 1 1 rfl)
            clear h128
            go_wp2_with (first | (go_at_call 71; refine (HSP.out _).mono ?_; rintro en w3 ⟨rfl, rfl⟩) | (at_builtin; refine wpList_append_any _ rfl (.tmp 50) (.tmp 53) _ rfl (w.heap.size + 1) 5 i0 _ 1 1 Try.underlying104 hi0 hz0 hz1 hz2 rfl (by omega) u5 out.length (bvs out) rfl (HO2.out.alloc _).2.2.1 (w2.heap.size + 1) (some ⟨w2.heap.size, 0, none⟩) 1 1 [.int .u8 (r : Int)] rfl (HRD.out) (by simp [Value.oneCell']) (by have := HM.out.2.2.2.2.2; simp only [maxLen]; omega) (by have := HM.out.2.2.2.2.2; omega) (by have := HSZ.out; simp; omega) ?_; intro v3 w4 hown3 hg3 hat3))
            have hb : Value.int .u8 (r : Int) = bv r.toUInt8 := by
              have : r.toUInt8.toNat = r := by simp; omega
              show Value.int .u8 (r : Int) = .int .u8 ((r.toUInt8.toNat : Nat) : Int)
              rw [this]
            have hW4 : ValW g fr s e a w v3 (p + n) (out ++ [r.toUInt8]) w4 := (HO2.out.alloc _).grown hg (by rw [bvs_append, List.length_append]; rw [hb] at hown3; exact hown3) hg3
            exact valIn_end (k := 1) HP0.out HM.out hW4 (by simp) (by omega) HX.out
          · have HX := Lib.hid (show valAt s fr fr false [] = .error (160, (q : Int)) by rw [HVV.out]; exact va_esc_bad HS.out.1 HD.out (by omega))
            have HF := Lib.hid (fail_any g q s e a 160 q _ HQ.out)
            have HSP := Lib.hid (fun W => special_any r W)
            generalize specialI r = sp at *
            clear h128
            go_wp2_with (first | (go_at_call 71; refine (HSP.out _).mono ?_; rintro en w3 ⟨rfl, rfl⟩) | (go_at_call 49; refine HF.out.mono ?_; rintro en w3 ⟨rfl, hR2, hO2⟩))
            go_ret2
            exact .inl ⟨160, q, q, HX.out, rfl, hR2, HO2.out.2.2.2.1.trans hO2⟩
        · have h128' : (128 : Int) ≤ (r : Int) := by omega
          have HX := Lib.hid (show valAt s fr fr false [] = .error (160, (q : Int)) by rw [HVV.out]; exact va_esc_bad HS.out.1 HD.out (by omega))
          have HF := Lib.hid (fail_any g q s e a 160 q _ HQ.out)
          clear h128
          go_wp2_with (go_at_call 49; refine HF.out.mono ?_; rintro en w3 ⟨rfl, hR2, hO2⟩)
          go_ret2
          exact .inl ⟨160, q, q, HX.out, rfl, hR2, HO2.out.2.2.2.1.trans hO2⟩
    · have hnx := fun ty => Lib.run_next_end_at (P := Try.prog) wr w.heap.size (s.extract fr s.size) p ty hit (by omega)
      obtain ⟨q0, hR⟩ := hW.2.1
      have hOn := hW.2.2.2.1
      have HF := Lib.hid (fail_any g q0 s e a 160 s.size _ hR)
      have c0 := hR.c0
      have HX := Lib.hid (show valAt s fr fr false [] = .error (160, (s.size : Int)) by rw [HV]; exact valAt_end (by omega))
      clear HV
      go_wp2_with (go_at_call 49; refine HF.out.mono ?_; rintro en w1 ⟨rfl, hR1, hO1⟩)
      go_ret2
      exact .inl ⟨160, s.size, q0, HX.out, rfl, hR1, hOn.trans hO1⟩
end Go.Proofs.Ytjebaibcfmjinaa
