/-
  The walk of pool.text: a table as a text. Condition: the table is within the reach.
-/
import Derived.Test.YtagekiaejhjpnaaBuildLay
import Derived.Test.YtagekiaejhjpnaaFoldLaw
import Derived.Test.YtagekiaejhjpnaaTabSort
namespace Go.Proofs.Ytagekiaejhjpnaa
open Go.RowKit Go.Shelf

theorem buildXS : Go.Proofs.Builder.Extra Try.prog buildS_ren := {
  sizeBuilder := by kernel_rfl
  liesBuilder := by kernel_rfl
  t5 := Try.underlying5
  a5 := fun _ => by kernel_rfl
  z5 := fun _ => by kernel_rfl
  v5 := fun _ => by kernel_rfl
  infoByte := by kernel_rfl
  cellsByte := by kernel_rfl
  sizeByte := by kernel_rfl
  neB5 := by decide }
theorem reads_only {g : Nat} {w w' : World} {B size n : Nat} {A : Option Addr} {xs : List Value} (h : Reads w B size A n xs) (hO : Only g w w') (hB : B ≤ w.heap.size) (hg : ∀ a, A = some a → a.block ≠ g) : Reads w' B size A n xs := by
  refine ⟨h.1, fun hn => ?_⟩
  obtain ⟨a, ha, hlt, hc⟩ := h.2 hn
  refine ⟨a, ha, hlt, fun j u hj => ?_⟩
  have hb := hO.block (a.add j).block (by rw [block_of_add]; omega) (by rw [block_of_add]; exact fun e => hg a ha (Option.some.inj e))
  exact (World.cell?_of_block hb).trans (hc j u hj)
theorem bsize : (Try.prog.info? 80).map (·.size) = some 2 := by kernel_rfl
theorem blies : liesAt Try.prog Try.prog.depth 80 (2 / Try.prog.cellsOf 80) 0 80 1 = true := by kernel_rfl
set_option maxHeartbeats 1000000 in
set_option maxRecDepth 100000 in
theorem bcheck_used (b : Nat) (w : World) (h0 : w.cell? ⟨b, 0, none⟩ = some (.pointer (some ⟨b, 0, none⟩))) :
    Calls Try.prog 64 #[.pointer (some ⟨b, 0, none⟩)] w fun e w' => e = .returned (.tuple #[]) ∧ w' = w := by
  obtain ⟨j, hj, _⟩ := Option.map_eq_some_iff.1 bsize
  go_enter Try.func64, Try.ntmps64
  go_wp2
  rw [Lib.run_neq_ptr_same w _ Try.underlying77 hj]
  go_wp2
  go_end0
  exact ⟨rfl, rfl⟩
set_option maxHeartbeats 1000000 in
set_option maxRecDepth 100000 in
theorem bcheck_fresh (b : Nat) (w : World) (h0 : w.cell? ⟨b, 0, none⟩ = some (.pointer none)) (hsh : w.shape? b = some (80, 2)) (hfz : w.frozen? ⟨b, 0, none⟩ = false) :
    Calls Try.prog 64 #[.pointer (some ⟨b, 0, none⟩)] w fun e w' => e = .returned (.tuple #[]) ∧ w' = w.setCell ⟨b, 0, none⟩ (.pointer (some ⟨b, 0, none⟩)) := by
  obtain ⟨j, hj, hjs⟩ := Option.map_eq_some_iff.1 bsize
  go_enter Try.func64, Try.ntmps64
  go_wp2
  rw [Lib.run_to_unsafe w ⟨b, 0, none⟩ Try.underlying77 Try.underlying112 hj (by rw [hjs]; decide) hsh (Nat.zero_lt_succ 1)]
  simp only [Result.andThen]
  rw [Oper.upon_value]
  go_wp2
  rw [run_callFunc_extern Try.func79 (by kernel_rfl) (by kernel_rfl) (by kernel_rfl) (e := Extern.AbiNoEscape.same) (by kernel_rfl)]
  rw [Lib.run_noEscape]
  simp only [Result.andThen]
  rw [Oper.upon_value]
  go_wp2
  rw [Lib.run_from_unsafe w ⟨b, 0, none⟩ Try.underlying112 Try.underlying77 hj hsh blies]
  simp only [Result.andThen]
  rw [Oper.upon_value]
  go_wp2
  go_end0
  exact ⟨rfl, rfl⟩
theorem bcheck_any (B b : Nat) (bs : List Value) (w : World) (h : Lib.IsBuilder 80 5 B b bs w) :
    Calls Try.prog 64 #[.pointer (some ⟨b, 0, none⟩)] w fun e w' => e = .returned (.tuple #[]) ∧ Lib.BuilderAt 80 5 B b (.pointer (some ⟨b, 0, none⟩)) bs w' ∧ Below B w w' ∧ Only b w w' := by
  rcases h with h | h
  · refine (bcheck_fresh b w h.cell0 h.shape h.frozen0).mono ?_
    rintro e w' ⟨rfl, rfl⟩
    exact ⟨rfl, h.used _, (Below.refl B w).setCell (p := ⟨b, 0, none⟩) h.1 _, (Only.refl b w).setCell (p := ⟨b, 0, none⟩) (.inl rfl) _⟩
  · refine (bcheck_used b w h.cell0).mono ?_
    rintro e w' ⟨rfl, rfl⟩
    exact ⟨rfl, h, Below.refl B _, Only.refl b _⟩
theorem byteInfo : (Try.prog.info? 5).map (fun i => (i.zero, i.size, i.bytes)) = some (some (.int .u8 0), 1, 1) := by kernel_rfl
set_option maxRecDepth 100000 in
set_option maxHeartbeats 4000000 in
theorem bwrite_any (B b : Nat) (bs : List Value) (ad : Addr) (m c : Nat) (news : List Value) (w : World) (h : Lib.IsBuilder 80 5 B b bs w)
    (hr : Reads w w.heap.size 1 (some ad) m news) (hnb : ad.block ≠ b) (h1 : ∀ u ∈ news, u.oneCell' = true) (hlen : bs.length + m ≤ 140737488355328) (hBw : B ≤ w.heap.size) :
    Calls Try.prog 49 #[.pointer (some ⟨b, 0, none⟩), .slice (some ad) m c] w fun e w' => e = .returned (.tuple #[.int .i64 m, .nilIface]) ∧ Lib.BuilderAt 80 5 B b (.pointer (some ⟨b, 0, none⟩)) (bs ++ news) w' ∧ Below B w w' := by
  have HC := Lib.hid (bcheck_any B b bs w h)
  have HR := Lib.hid hr
  have HNB := Lib.hid hnb
  have H1 := Lib.hid h1
  have HLM := Lib.hid (show (bs ++ news).length = bs.length + m by rw [List.length_append, hr.1, Nat.mul_one])
  obtain ⟨i0, hi0, hz0, hz1, hz2⟩ := info_parts byteInfo
  clear h hr hnb h1
  go_enter Try.func49, Try.ntmps49
  go_upto_region 2 with (go_at_call 64; go_loud (refine HC.out.mono ?_; rintro e w1 ⟨rfl, hb, hbl, hon⟩; have HB := Lib.hid hb; have HBL := Lib.hid hbl; have HON := Lib.hid hon; clear hb hbl hon))
  obtain ⟨hB, v, hbk, hown, hne⟩ := HB.out
  have c0 : w1.cell? ⟨b, 0, none⟩ = some (.pointer (some ⟨b, 0, none⟩)) := by rw [Lib.cell_of_heap hbk]; rfl
  have c1 : w1.cell? ⟨b, 1, none⟩ = some v := by rw [Lib.cell_of_heap hbk]; rfl
  have HR1 := Lib.hid ((reads_only HR.out HON.out (Nat.le_refl _) (fun a ha => by cases ha; exact HNB.out)).more HON.out.size)
  have HBK := Lib.hid hbk
  have HOWN := Lib.hid hown
  have HNE := Lib.hid hne
  have HBB := Lib.hid hB
  have HBW := Lib.hid (show B ≤ w1.heap.size from Nat.le_trans hBw HBL.out.size)
  have hlt : b < w1.heap.size := by
    rcases Nat.lt_or_ge b w1.heap.size with h' | h'
    · exact h'
    · simp [Array.getElem?_eq_none h'] at hbk
  have HLT := Lib.hid hlt
  clear hbk hown hne hB HB hlt
  go_wp2_with (at_builtin; go_loud (refine wpList_append_any _ rfl (.tmp 12) (.tmp 13) _ rfl B 5 i0 _ 1 1 Try.underlying78 hi0 hz0 hz1 hz2 rfl (by omega) _ bs.length bs rfl HOWN.out w1.heap.size (some ad) m c news rfl HR1.out H1.out (by simp only [maxLen]; omega) (by omega) HBW.out ?_; intro v2 w2 hown2 hg2 _; have HO2 := Lib.hid hown2; have HG2 := Lib.hid hg2; have hb2 : w2.heap[b]? = some (.cells #[.pointer (some ⟨b, 0, none⟩), v] 80 (0, 0)) := (hg2.block b HLT.out (fun e => HNE.out e.symm)).trans HBK.out; have d0 : w2.cell? ⟨b, 0, none⟩ = some (.pointer (some ⟨b, 0, none⟩)) := (by rw [Lib.cell_of_heap hb2]; rfl); have d1 : w2.cell? ⟨b, 1, none⟩ = some v := (by rw [Lib.cell_of_heap hb2]; rfl); have f1 : w2.frozen? ⟨b, 1, none⟩ = false := Lib.frozen_of_heap hb2 1; have HB2 := Lib.hid hb2; obtain ⟨ao, c2, rfl, -, -, -⟩ := own_form hown2; clear hown2 hg2 hb2))
  go_ret2
  refine ⟨rfl, ?_, ?_⟩
  · exact Lib.BuilderAt.put (T := 80) (e := 5) HBB.out HB2.out (bs' := bs ++ news) (by rw [HLM.out]; exact HO2.out) (by decide)
  · exact (HBL.out.grown HG2.out (by have := HBL.out.size; omega) (fun k hk => (HOWN.out.lt k hk).1)).setCell (p := ⟨b, 1, none⟩) HBB.out _
theorem isb_more {T e : TypeId} {B b : Nat} {bs : List Value} {w : World} (h : Lib.IsBuilder T e B b bs w) (o : Obj) : Lib.IsBuilder T e B b bs (w.alloc o) := by
  have key : ∀ p, Lib.BuilderAt T e B b p bs w → Lib.BuilderAt T e B b p bs (w.alloc o) := fun p h => by
    have hlt := h.lt
    obtain ⟨hB, v, hb, ho, hn⟩ := h
    exact ⟨hB, v, (heap_alloc_old w o hlt).trans hb, ho.alloc o, hn⟩
  exact h.elim (fun h => .inl (key _ h)) (fun h => .inr (key _ h))
def partB (x : RowI) : Nat → List UInt8
  | 0 => []
  | 1 => be4 x.1
  | _ => be4 x.1 ++ be4 x.2
theorem be4_cells (n : Int) : Lib.byteCells (be4 n) = [.int .u8 (n / 16777216 % 256), .int .u8 (n / 65536 % 256), .int .u8 (n / 256 % 256), .int .u8 (n % 256)] := by
  simp [Lib.byteCells, be4, by8_nat]
theorem byteCells_app (l m : List UInt8) : Lib.byteCells (l ++ m) = Lib.byteCells l ++ Lib.byteCells m := by simp [Lib.byteCells]
set_option maxRecDepth 100000 in
set_option maxHeartbeats 8000000 in
theorem ptext_any (v : Value) (l : List RowI) (w : World) (h : RowsR w w.heap.size v l) (hok : RowsOk l) (hlen : l.length * 8 ≤ 140737488351232) :
    Calls Try.prog 38 #[v] w fun e w' => e = .returned (.string (textB l)) ∧ Below w.heap.size w w' := by
  obtain ⟨A, c, rfl, hc, hm, hR⟩ := h
  have HR := Lib.hid hR
  have HOK := Lib.hid hok
  unfold maxLen at hm
  clear hR hok
  generalize hn : l.length = n at *
  have HN := Lib.hid hn
  have hn1 : (n : Int) ≤ 17592186043904 := by omega
  clear hn hc
  have HB0 := Lib.hid (show Lib.IsBuilder 80 5 w.heap.size w.heap.size (Lib.byteCells (tabB (l.take 0))) (w.alloc (.cells #[.pointer none, .slice none 0 0] 80)) from
      .inl ⟨Nat.le_refl _, .slice none 0 0, heap_alloc_new w _, World.ownsRow_nil _ _ _ _, by simp [Value.ownBlock]⟩)
  go_enter Try.func38, Try.ntmps38
  go_wp2
  go_loopw [10] (fun iv wr => ∃ p : Nat, iv = .int .i64 (p : Int) ∧ p ≤ n ∧ Lib.IsBuilder 80 5 w.heap.size w.heap.size (Lib.byteCells (tabB (l.take p))) wr ∧ Below w.heap.size w wr) (fun iv _ => n - (Lib.intOf iv).toNat)
  case atStart => exact ⟨0, rfl, Nat.zero_le _, HB0.out, (Below.refl _ _).alloc (Nat.le_refl _) _⟩
  case round =>
    obtain ⟨p, rfl, hp, hI, hB⟩ := hrel
    have HI := Lib.hid hI
    have HB := Lib.hid hB
    clear hI hB
    by_cases hlt : p < n
    · obtain ⟨x, hx⟩ := at_lt (l := l) (p := p) (by have := HN.out; omega)
      have hq : (p : Int) < (n : Int) := by omega
      obtain ⟨b1, o1, rfl, hb1, hcl1⟩ := (HR.out.below HB.out).spot (by omega) (by omega)
      have r0 := hcl1 _ _ (rowCells_at hx).1
      have r1 : wr.cell? ⟨b1, o1 + p * 2 + 1, none⟩ = some (.int .u32 x.2) := hcl1 _ _ (rowCells_at hx).2
      have HX := Lib.hid hx
      clear hcl1 hx
      have HI3 := Lib.hid (isb_more HI.out (.cells #[.int .u32 x.1, .int .u32 x.2] 38))
      have HB3 := Lib.hid (HB.out.alloc HB.out.size (.cells #[.int .u32 x.1, .int .u32 x.2] 38))
      go_wp2
      go_loopw [19] (fun iv wx => ∃ j : Nat, iv = .int .i64 (j : Int) ∧ j ≤ 2 ∧ Lib.IsBuilder 80 5 w.heap.size w.heap.size (Lib.byteCells (tabB (l.take p)) ++ Lib.byteCells (partB x j)) wx ∧ Below w.heap.size w wx) (fun iv _ => 2 - (Lib.intOf iv).toNat)
      case atStart => exact ⟨0, rfl, by omega, by simpa [partB, Lib.byteCells] using HI3.out, HB3.out⟩
      case round =>
        obtain ⟨j, rfl, hj, hI2, hB2⟩ := hrel
        obtain rfl | rfl | rfl : j = 0 ∨ j = 1 ∨ j = 2 := by omega
        · have HI2 := Lib.hid hI2
          have HB2 := Lib.hid hB2
          clear hI2 hB2 hj
          have i0 : ∀ w, (Instr.index 81 (.agg #[.int .u32 x.1, .int .u32 x.2]) (.int .i64 0)).run Try.prog w = .ok (.int .u32 x.1) w := fun _ => by kernel_rfl
          have HRN := Lib.hid (reads_new wr #[.int .u8 (x.1 / 16777216 % 256), .int .u8 (x.1 / 65536 % 256), .int .u8 (x.1 / 256 % 256), .int .u8 (x.1 % 256)] 5 1 4 rfl)
          have HIX := Lib.hid (isb_more HI2.out (.cells #[.int .u8 (x.1 / 16777216 % 256), .int .u8 (x.1 / 65536 % 256), .int .u8 (x.1 / 256 % 256), .int .u8 (x.1 % 256)] 5))
          have HBX := Lib.hid (HB2.out.alloc HB2.out.size (.cells #[.int .u8 (x.1 / 16777216 % 256), .int .u8 (x.1 / 65536 % 256), .int .u8 (x.1 / 256 % 256), .int .u8 (x.1 % 256)] 5))
          have HLT := Lib.hid (show w.heap.size < wr.heap.size from by obtain h | h := HI2.out <;> exact h.lt)
          have HLN := Lib.hid (show (Lib.byteCells (tabB (l.take p)) ++ Lib.byteCells (partB x 0)).length + 4 ≤ 140737488355328 by
            rw [List.length_append, Lib.byteCells_length, Lib.byteCells_length, tabB_len, List.length_take]
            have : (partB x 0).length = 0 := rfl
            have := HN.out
            omega)
          go_wp2_with (go_at_call 49; go_loud (refine (bwrite_any w.heap.size w.heap.size _ ⟨wr.heap.size, 0, none⟩ 4 4 _ _ HIX.out (by rw [World.size_alloc]; exact HRN.out) (by have := HLT.out; show wr.heap.size ≠ w.heap.size; omega) (by simp [Value.oneCell']) HLN.out HBX.out.size).mono ?_; rintro e w4 ⟨rfl, hb4, hbl4⟩; have HI4 := Lib.hid hb4; have HB4 := Lib.hid (HBX.out.trans hbl4); clear hb4 hbl4))
          go_roundw
          case rel =>
            refine ⟨0 + 1, rfl, by omega, .inr ?_, HB4.out⟩
            have h4 := HI4.out
            rw [← be4_cells, List.append_assoc, ← byteCells_app] at h4
            exact h4
          case measure => simp [Lib.intOf]
        · have HI2 := Lib.hid hI2
          have HB2 := Lib.hid hB2
          clear hI2 hB2 hj
          have i0 : ∀ w, (Instr.index 81 (.agg #[.int .u32 x.1, .int .u32 x.2]) (.int .i64 1)).run Try.prog w = .ok (.int .u32 x.2) w := fun _ => by kernel_rfl
          have HRN := Lib.hid (reads_new wr #[.int .u8 (x.2 / 16777216 % 256), .int .u8 (x.2 / 65536 % 256), .int .u8 (x.2 / 256 % 256), .int .u8 (x.2 % 256)] 5 1 4 rfl)
          have HIX := Lib.hid (isb_more HI2.out (.cells #[.int .u8 (x.2 / 16777216 % 256), .int .u8 (x.2 / 65536 % 256), .int .u8 (x.2 / 256 % 256), .int .u8 (x.2 % 256)] 5))
          have HBX := Lib.hid (HB2.out.alloc HB2.out.size (.cells #[.int .u8 (x.2 / 16777216 % 256), .int .u8 (x.2 / 65536 % 256), .int .u8 (x.2 / 256 % 256), .int .u8 (x.2 % 256)] 5))
          have HLT := Lib.hid (show w.heap.size < wr.heap.size from by obtain h | h := HI2.out <;> exact h.lt)
          have HLN := Lib.hid (show (Lib.byteCells (tabB (l.take p)) ++ Lib.byteCells (partB x 1)).length + 4 ≤ 140737488355328 by
            rw [List.length_append, Lib.byteCells_length, Lib.byteCells_length, tabB_len, List.length_take]
            have : (partB x 1).length = 4 := rfl
            have := HN.out
            omega)
          go_wp2_with (go_at_call 49; go_loud (refine (bwrite_any w.heap.size w.heap.size _ ⟨wr.heap.size, 0, none⟩ 4 4 _ _ HIX.out (by rw [World.size_alloc]; exact HRN.out) (by have := HLT.out; show wr.heap.size ≠ w.heap.size; omega) (by simp [Value.oneCell']) HLN.out HBX.out.size).mono ?_; rintro e w4 ⟨rfl, hb4, hbl4⟩; have HI4 := Lib.hid hb4; have HB4 := Lib.hid (HBX.out.trans hbl4); clear hb4 hbl4))
          go_roundw
          case rel =>
            refine ⟨1 + 1, rfl, by omega, .inr ?_, HB4.out⟩
            have h4 := HI4.out
            rw [← be4_cells, List.append_assoc, ← byteCells_app] at h4
            exact h4
          case measure => simp [Lib.intOf]
        · have HI2 := Lib.hid (show Lib.IsBuilder 80 5 w.heap.size w.heap.size (Lib.byteCells (tabB (l.take (p + 1)))) wr from by
            rw [List.take_add_one, HX.out]
            simp only [Option.toList_some]
            rw [tabB_snoc, byteCells_app]
            exact hI2)
          have HB2 := Lib.hid hB2
          clear hI2 hB2 hj
          go_wp2
          go_roundw
          case rel => exact ⟨p + 1, by go_num, hlt, HI2.out, HB2.out⟩
          case measure => simp [Lib.intOf]; omega
    · obtain rfl : p = n := by omega
      have hq : ¬ (p : Int) < (p : Int) := by omega
      have HT := Lib.hid (show l.take p = l from List.take_of_length_le (by rw [HN.out]; exact Nat.le_refl _))
      rw [HT.out] at HI
      have HST := Lib.hid (Go.Proofs.Any.Builder_String_any buildS buildXS w.heap.size w.heap.size (tabB l) wr HI.out HB.out.size)
      go_wp2_with (go_at_call 50; go_loud (refine HST.out.mono ?_; rintro e w5 ⟨rfl, hb5⟩; have HB5 := Lib.hid (HB.out.trans hb5); clear hb5))
      go_ret
      exact ⟨rfl, HB5.out⟩
end Go.Proofs.Ytagekiaejhjpnaa
