/-
  Tables as texts, plainly: four bytes a number, the highest first; their order is the order of tables. Where each table of a list stands among the tables once each. No condition beyond that the numbers are of 32 bits.
-/
import Derived.Test.YtfpepdjffehbcaaGreatPoolCmpT
import Derived.Shelf.Spec.SearchS
import Derived.Test.YtfpepdjffehbcaaGreatBuildLay
import Derived.Test.YtfpepdjffehbcaaGreatPoolTable
import Derived.Test.YtfpepdjffehbcaaGreatPoolPool
import Derived.Test.YtfpepdjffehbcaaGreatSearchLay
import Derived.Test.YtfpepdjffehbcaaGreatBinLay
import Derived.Maps.RangeWalk
set_option linter.unusedVariables false
set_option linter.unusedSimpArgs false
namespace Go.Proofs.YtfpepdjffehbcaaGreat
open Go.RowKit

def by8 (n : Int) : UInt8 := UInt8.ofNat (n % 256).toNat
theorem by8_nat (n : Int) : ((by8 n).toNat : Int) = n % 256 := by
  have h1 : (n % 256).toNat < 256 := by omega
  unfold by8
  rw [UInt8.toNat_ofNat', Nat.mod_eq_of_lt h1]
  omega
theorem by8_lt (a b : Int) : (by8 a < by8 b) ↔ a % 256 < b % 256 := by
  rw [UInt8.lt_iff_toNat_lt, ← Int.ofNat_lt, by8_nat, by8_nat]
theorem by8_eq (a b : Int) : (by8 a = by8 b) ↔ a % 256 = b % 256 := by
  rw [← UInt8.toNat_inj, ← Int.ofNat_inj, by8_nat, by8_nat]
def be4 (n : Int) : List UInt8 := [by8 (n / 16777216), by8 (n / 65536), by8 (n / 256), by8 n]
theorem be4_len (n : Int) : (be4 n).length = 4 := rfl
theorem be4_inj {a b : Int} (ha : 0 ≤ a ∧ a < 4294967296) (hb : 0 ≤ b ∧ b < 4294967296) : be4 a = be4 b ↔ a = b := by
  constructor
  · intro h
    simp only [be4, List.cons.injEq, by8_eq, and_true] at h
    omega
  · rintro rfl
    rfl
theorem digits {a : Int} (ha : 0 ≤ a ∧ a < 4294967296) : ∃ d3 d2 d1 d0 : Int, (0 ≤ d3 ∧ d3 < 256) ∧ (0 ≤ d2 ∧ d2 < 256) ∧ (0 ≤ d1 ∧ d1 < 256) ∧ (0 ≤ d0 ∧ d0 < 256) ∧ a = d3 * 16777216 + d2 * 65536 + d1 * 256 + d0 ∧
    a / 16777216 % 256 = d3 ∧ a / 65536 % 256 = d2 ∧ a / 256 % 256 = d1 ∧ a % 256 = d0 := by
  refine ⟨a / 16777216, a / 65536 % 256, a / 256 % 256, a % 256, ?_, ?_, ?_, ?_, ?_, ?_, rfl, rfl, rfl⟩ <;> omega
theorem be4_less {a b : Int} (ha : 0 ≤ a ∧ a < 4294967296) (hb : 0 ≤ b ∧ b < 4294967296) : Op.bytesLess (be4 a) (be4 b) = decide (a < b) := by
  simp only [be4, Op.bytesLess, Bool.or_false, Bool.and_false]
  rw [Bool.eq_iff_iff]
  simp only [Bool.or_eq_true, Bool.and_eq_true, decide_eq_true_eq, beq_iff_eq, by8_lt, by8_eq]
  obtain ⟨a3, a2, a1, a0, h3, h2, h1, h0, e, e3, e2, e1, e0⟩ := digits ha
  obtain ⟨b3, b2, b1, b0, k3, k2, k1, k0, f, f3, f2, f1, f0⟩ := digits hb
  rw [e3, e2, e1, e0, f3, f2, f1, f0]
  clear e3 e2 e1 e0 f3 f2 f1 f0 ha hb
  omega
theorem less_app (u v x y : List UInt8) (h : u.length = v.length) : Op.bytesLess (u ++ x) (v ++ y) = if u = v then Op.bytesLess x y else Op.bytesLess u v := by
  induction u generalizing v with
  | nil =>
    cases v with
    | nil => simp
    | cons b v => cases h
  | cons a u ih =>
    cases v with
    | nil => cases h
    | cons b v =>
      simp only [List.length_cons, Nat.add_right_cancel_iff] at h
      simp only [List.cons_append, Op.bytesLess, ih v h, List.cons.injEq]
      by_cases e : a = b
      · subst e
        by_cases e2 : u = v
        · simp [e2]
        · simp [e2]
      · have e2 : (a == b) = false := by simpa using e
        simp [e2, e]
def rowB (r : RowI) : List UInt8 := be4 r.1 ++ be4 r.2
theorem rowB_len (r : RowI) : (rowB r).length = 8 := rfl
def RowOk (q : RowI) : Prop := (0 ≤ q.1 ∧ q.1 < 4294967296) ∧ 0 ≤ q.2 ∧ q.2 < 4294967296
theorem rowB_inj {x y : RowI} (hx : RowOk x) (hy : RowOk y) : rowB x = rowB y ↔ x = y := by
  constructor
  · intro h
    obtain ⟨h1, h2⟩ := List.append_inj h rfl
    exact Prod.ext ((be4_inj hx.1 hy.1).1 h1) ((be4_inj hx.2 hy.2).1 h2)
  · rintro rfl
    rfl
theorem rowB_less {x y : RowI} (hx : RowOk x) (hy : RowOk y) : Op.bytesLess (rowB x) (rowB y) = rl x y := by
  unfold rowB
  rw [less_app (be4 x.1) (be4 y.1) (be4 x.2) (be4 y.2) rfl, be4_less hx.1 hy.1, be4_less hx.2 hy.2]
  unfold rl
  by_cases h : x.1 = y.1
  · rw [if_pos (by rw [h]), decide_eq_false (show ¬ x.1 < y.1 by omega), decide_eq_true h]
    simp
  · rw [if_neg (fun e => h ((be4_inj hx.1 hy.1).1 e)), decide_eq_false h]
    simp
/-- A table as bytes. -/
def tabB (l : List RowI) : List UInt8 := l.flatMap rowB
theorem tabB_len (l : List RowI) : (tabB l).length = l.length * 8 := by
  induction l with
  | nil => rfl
  | cons x l ih => simp only [tabB, List.flatMap_cons, List.length_append, rowB_len, List.length_cons] at ih ⊢; omega
theorem tabB_snoc (l : List RowI) (x : RowI) : tabB (l ++ [x]) = tabB l ++ rowB x := by simp [tabB]
theorem tabB_less : ∀ {a b : List RowI}, RowsOk a → RowsOk b → Op.bytesLess (tabB a) (tabB b) = lexL rl a b
  | a, [], _, _ => by simp [tabB, lexL, Op.bytesLess]
  | [], y :: b, _, _ => by simp [tabB, lexL, rowB, be4, Op.bytesLess]
  | x :: a, y :: b, ha, hb => by
    have hx : RowOk x := ha x (by simp)
    have hy : RowOk y := hb y (by simp)
    have ih := tabB_less (a := a) (b := b) (fun q hq => ha q (by simp [hq])) (fun q hq => hb q (by simp [hq]))
    simp only [tabB, List.flatMap_cons] at ih ⊢
    rw [less_app (rowB x) (rowB y) _ _ rfl, ih, rowB_less hx hy]
    simp only [lexL]
    by_cases h : x = y
    · rw [if_pos (by rw [h]), if_pos h]
    · rw [if_neg (fun e => h ((rowB_inj hx hy).1 e)), if_neg h]
def textB (l : List RowI) : ByteArray := ⟨(tabB l).toArray⟩
theorem textB_toList (l : List RowI) : (textB l).toList = tabB l := by rw [Lib.toList_data]; rfl
theorem textB_size (l : List RowI) : (textB l).size = l.length * 8 := by
  show (tabB l).toArray.size = _
  rw [List.size_toArray, tabB_len]
theorem textB_less {a b : List RowI} (ha : RowsOk a) (hb : RowsOk b) : bl (textB a) (textB b) = tl a b := by
  unfold bl
  rw [textB_toList, textB_toList, tabB_less ha hb]
theorem textB_inj {a b : List RowI} (ha : RowsOk a) (hb : RowsOk b) (h : textB a = textB b) : a = b := by
  have h1 := textB_less ha hb
  have h2 := textB_less hb ha
  rw [h, blT.irr] at h1 h2
  exact tlT.conn a b h1.symm h2.symm
/-- The texts of tables, once each: those of the tables once each. -/
theorem pool_texts {l : List (List RowI)} (h : ∀ t ∈ l, RowsOk t) : poolL bl (l.map textB) = (poolL tl l).map textB := by
  refine (poolL_eq blT ?_ fun x => ?_).symm
  · have hr := poolL_rise tlT l
    unfold RiseL
    rw [List.pairwise_map]
    refine hr.imp_of_mem fun {a b} ha hb hab => ?_
    rw [textB_less (h a ((poolL_mem l a).1 ha)) (h b ((poolL_mem l b).1 hb))]
    exact hab
  · simp only [List.mem_map, poolL_mem]
/-- Where each table stands. -/
def FoldAt (ls : List (List RowI)) (ks : List Nat) : Prop := ks.length = ls.length ∧ ∀ (i : Nat) (t : List RowI), ls[i]? = some t → ∃ k, ks[i]? = some k ∧ (poolL tl ls)[k]? = some t
theorem pool_at {ls : List (List RowI)} {t : List RowI} (h : t ∈ ls) : ∃ k : Nat, (poolL tl ls)[k]? = some t :=
  List.mem_iff_getElem?.1 ((poolL_mem ls t).2 h)
/-- What the halving tells of the texts. -/
theorem halving {ls : List (List RowI)} (h : ∀ t ∈ ls, RowsOk t) {k : Nat} {t : List RowI} (hk : (poolL tl ls)[k]? = some t) :
    Lib.bsGo (fun j => Op.bytesLess ((((poolL tl ls).map textB)[j]?).getD (textB t)).toList (textB t).toList) (poolL tl ls).length 0 (poolL tl ls).length = k := by
  have hkl := (List.getElem?_eq_some_iff.1 hk).1
  have hok : ∀ x ∈ poolL tl ls, RowsOk x := fun x hx => h x ((poolL_mem ls x).1 hx)
  have ht := hok t (List.mem_of_getElem? hk)
  refine Lib.bsGo_spec _ k (fun j hj => ?_) (fun j hj => ?_) _ _ _ (by omega) (by omega) (by omega)
  · obtain ⟨y, hy⟩ : ∃ y, (poolL tl ls)[j]? = some y := ⟨(poolL tl ls)[j], by simp [show j < (poolL tl ls).length by omega]⟩
    rw [List.getElem?_map, hy]
    have := textB_less (hok y (List.mem_of_getElem? hy)) ht
    unfold bl at this
    simp only [Option.map_some, Option.getD_some, this]
    exact rise_at (poolL_rise tlT ls) hy hk hj
  · cases hy : (poolL tl ls)[j]? with
    | none =>
      rw [List.getElem?_map, hy]
      simp only [Option.map_none, Option.getD_none]
      exact bl_irr _
    | some y =>
      rw [List.getElem?_map, hy]
      have := textB_less (hok y (List.mem_of_getElem? hy)) ht
      unfold bl at this
      simp only [Option.map_some, Option.getD_some, this]
      rcases Nat.lt_or_ge k j with h1 | h1
      · exact tlT.asym (rise_at (poolL_rise tlT ls) hk hy h1)
      · obtain rfl : j = k := by omega
        rw [hk] at hy
        cases hy
        exact tlT.irr _
end Go.Proofs.YtfpepdjffehbcaaGreat
/-
  The walk of pool.text: a table as a text. Condition: the table is within the reach.
-/
set_option linter.unusedVariables false
set_option linter.unusedSimpArgs false
namespace Go.Proofs.YtfpepdjffehbcaaGreat
open Go.RowKit Go.Shelf

theorem buildXS : Go.Proofs.Builder.Extra Tryz.prog buildS_ren := {
  sizeBuilder := by kernel_rfl
  liesBuilder := by kernel_rfl
  t5 := Tryz.underlying5
  a5 := fun _ => by kernel_rfl
  z5 := fun _ => by kernel_rfl
  v5 := fun _ => by kernel_rfl
  infoByte := by kernel_rfl
  cellsByte := by kernel_rfl
  sizeByte := by kernel_rfl
  neB5 := by decide }
theorem reads_only {g : Nat} {w w' : World} {B size n : Nat} {A : Option Addr} {xs : List Value} (h : Reads w B size A n xs) (hO : Only g w w') (hB : B ≤ w.heap.size) (hg : ∀ a, A = some a → a.block ≠ g) : Reads w' B size A n xs := by
  refine ⟨h.1, fun hn => ?_⟩
  obtain ⟨a, ha, hlt, hc⟩ := h.2 hn
  refine ⟨a, ha, hlt, fun j u hj => ?_⟩
  have hb := hO.block (a.add j).block (by rw [block_of_add]; omega) (by rw [block_of_add]; exact fun e => hg a ha (Option.some.inj e))
  exact (World.cell?_of_block hb).trans (hc j u hj)
theorem bsize : (Tryz.prog.info? 185).map (·.size) = some 2 := by kernel_rfl
theorem blies : liesAt Tryz.prog Tryz.prog.depth 185 (2 / Tryz.prog.cellsOf 185) 0 185 1 = true := by kernel_rfl
set_option maxHeartbeats 1000000 in
set_option maxRecDepth 100000 in
theorem bcheck_used (b : Nat) (w : World) (h0 : w.cell? ⟨b, 0, none⟩ = some (.pointer (some ⟨b, 0, none⟩))) :
    Calls Tryz.prog 147 #[.pointer (some ⟨b, 0, none⟩)] w fun e w' => e = .returned (.tuple #[]) ∧ w' = w := by
  obtain ⟨j, hj, _⟩ := Option.map_eq_some_iff.1 bsize
  go_enter Tryz.func147, Tryz.ntmps147
  go_wp2
  rw [Lib.run_neq_ptr_same w _ Tryz.underlying183 hj]
  go_wp2
  go_end0
  exact ⟨rfl, rfl⟩
set_option maxHeartbeats 1000000 in
set_option maxRecDepth 100000 in
theorem bcheck_fresh (b : Nat) (w : World) (h0 : w.cell? ⟨b, 0, none⟩ = some (.pointer none)) (hsh : w.shape? b = some (185, 2)) (hfz : w.frozen? ⟨b, 0, none⟩ = false) :
    Calls Tryz.prog 147 #[.pointer (some ⟨b, 0, none⟩)] w fun e w' => e = .returned (.tuple #[]) ∧ w' = w.setCell ⟨b, 0, none⟩ (.pointer (some ⟨b, 0, none⟩)) := by
  obtain ⟨j, hj, hjs⟩ := Option.map_eq_some_iff.1 bsize
  go_enter Tryz.func147, Tryz.ntmps147
  go_wp2
  rw [Lib.run_to_unsafe w ⟨b, 0, none⟩ Tryz.underlying183 Tryz.underlying224 hj (by rw [hjs]; decide) hsh (Nat.zero_lt_succ 1)]
  simp only [Result.andThen]
  rw [Oper.upon_value]
  go_wp2
  rw [run_callFunc_extern Tryz.func159 (by kernel_rfl) (by kernel_rfl) (by kernel_rfl) (e := Extern.AbiNoEscape.same) (by kernel_rfl)]
  rw [Lib.run_noEscape]
  simp only [Result.andThen]
  rw [Oper.upon_value]
  go_wp2
  rw [Lib.run_from_unsafe w ⟨b, 0, none⟩ Tryz.underlying224 Tryz.underlying183 hj hsh blies]
  simp only [Result.andThen]
  rw [Oper.upon_value]
  go_wp2
  go_end0
  exact ⟨rfl, rfl⟩
theorem bcheck_any (B b : Nat) (bs : List Value) (w : World) (h : Lib.IsBuilder 185 5 B b bs w) :
    Calls Tryz.prog 147 #[.pointer (some ⟨b, 0, none⟩)] w fun e w' => e = .returned (.tuple #[]) ∧ Lib.BuilderAt 185 5 B b (.pointer (some ⟨b, 0, none⟩)) bs w' ∧ Below B w w' ∧ Only b w w' := by
  rcases h with h | h
  · refine (bcheck_fresh b w h.cell0 h.shape h.frozen0).mono ?_
    rintro e w' ⟨rfl, rfl⟩
    exact ⟨rfl, h.used _, (Below.refl B w).setCell (p := ⟨b, 0, none⟩) h.1 _, (Only.refl b w).setCell (p := ⟨b, 0, none⟩) (.inl rfl) _⟩
  · refine (bcheck_used b w h.cell0).mono ?_
    rintro e w' ⟨rfl, rfl⟩
    exact ⟨rfl, h, Below.refl B _, Only.refl b _⟩
theorem byteInfo : (Tryz.prog.info? 5).map (fun i => (i.zero, i.size, i.bytes)) = some (some (.int .u8 0), 1, 1) := by kernel_rfl
set_option maxRecDepth 100000 in
set_option maxHeartbeats 4000000 in
theorem bwrite_any (B b : Nat) (bs : List Value) (ad : Addr) (m c : Nat) (news : List Value) (w : World) (h : Lib.IsBuilder 185 5 B b bs w)
    (hr : Reads w w.heap.size 1 (some ad) m news) (hnb : ad.block ≠ b) (h1 : ∀ u ∈ news, u.oneCell' = true) (hlen : bs.length + m ≤ 140737488355328) (hBw : B ≤ w.heap.size) :
    Calls Tryz.prog 121 #[.pointer (some ⟨b, 0, none⟩), .slice (some ad) m c] w fun e w' => e = .returned (.tuple #[.int .i64 m, .nilIface]) ∧ Lib.BuilderAt 185 5 B b (.pointer (some ⟨b, 0, none⟩)) (bs ++ news) w' ∧ Below B w w' := by
  have HC := Lib.hid (bcheck_any B b bs w h)
  have HR := Lib.hid hr
  have HNB := Lib.hid hnb
  have H1 := Lib.hid h1
  have HLM := Lib.hid (show (bs ++ news).length = bs.length + m by rw [List.length_append, hr.1, Nat.mul_one])
  obtain ⟨i0, hi0, hz0, hz1, hz2⟩ := info_parts byteInfo
  clear h hr hnb h1
  go_enter Tryz.func121, Tryz.ntmps121
  go_upto_region 2 with (go_at_call 147; go_loud (refine HC.out.mono ?_; rintro e w1 ⟨rfl, hb, hbl, hon⟩; have HB := Lib.hid hb; have HBL := Lib.hid hbl; have HON := Lib.hid hon; clear hb hbl hon))
  obtain ⟨hB, v, hbk, hown, hne⟩ := HB.out
  have c0 : w1.cell? ⟨b, 0, none⟩ = some (.pointer (some ⟨b, 0, none⟩)) := by rw [Lib.cell_of_heap hbk]; rfl
  have c1 : w1.cell? ⟨b, 1, none⟩ = some v := by rw [Lib.cell_of_heap hbk]; rfl
  have HR1 := Lib.hid ((reads_only HR.out HON.out (Nat.le_refl _) (fun a ha => by cases ha; exact HNB.out)).more HON.out.size)
  have HBK := Lib.hid hbk
  have HOWN := Lib.hid hown
  have HNE := Lib.hid hne
  have HBB := Lib.hid hB
  have HBW := Lib.hid (show B ≤ w1.heap.size from Nat.le_trans hBw HBL.out.size)
  have hlt : b < w1.heap.size := by
    rcases Nat.lt_or_ge b w1.heap.size with h' | h'
    · exact h'
    · simp [Array.getElem?_eq_none h'] at hbk
  have HLT := Lib.hid hlt
  clear hbk hown hne hB HB hlt
  go_wp2_with (at_builtin; go_loud (refine wpList_append_any _ rfl (.tmp 12) (.tmp 13) _ rfl B 5 i0 _ 1 1 Tryz.underlying27 hi0 hz0 hz1 hz2 rfl (by omega) _ bs.length bs rfl HOWN.out w1.heap.size (some ad) m c news rfl HR1.out H1.out (by simp only [maxLen]; omega) (by omega) HBW.out ?_; intro v2 w2 hown2 hg2 _; have HO2 := Lib.hid hown2; have HG2 := Lib.hid hg2; have hb2 : w2.heap[b]? = some (.cells #[.pointer (some ⟨b, 0, none⟩), v] 185 (0, 0)) := (hg2.block b HLT.out (fun e => HNE.out e.symm)).trans HBK.out; have d0 : w2.cell? ⟨b, 0, none⟩ = some (.pointer (some ⟨b, 0, none⟩)) := (by rw [Lib.cell_of_heap hb2]; rfl); have d1 : w2.cell? ⟨b, 1, none⟩ = some v := (by rw [Lib.cell_of_heap hb2]; rfl); have f1 : w2.frozen? ⟨b, 1, none⟩ = false := Lib.frozen_of_heap hb2 1; have HB2 := Lib.hid hb2; obtain ⟨ao, c2, rfl, -, -, -⟩ := own_form hown2; clear hown2 hg2 hb2))
  go_ret2
  refine ⟨rfl, ?_, ?_⟩
  · exact Lib.BuilderAt.put (T := 185) (e := 5) HBB.out HB2.out (bs' := bs ++ news) (by rw [HLM.out]; exact HO2.out) (by decide)
  · exact (HBL.out.grown HG2.out (by have := HBL.out.size; omega) (fun k hk => (HOWN.out.lt k hk).1)).setCell (p := ⟨b, 1, none⟩) HBB.out _
theorem isb_more {T e : TypeId} {B b : Nat} {bs : List Value} {w : World} (h : Lib.IsBuilder T e B b bs w) (o : Obj) : Lib.IsBuilder T e B b bs (w.alloc o) := by
  have key : ∀ p, Lib.BuilderAt T e B b p bs w → Lib.BuilderAt T e B b p bs (w.alloc o) := fun p h => by
    have hlt := h.lt
    obtain ⟨hB, v, hb, ho, hn⟩ := h
    exact ⟨hB, v, (heap_alloc_old w o hlt).trans hb, ho.alloc o, hn⟩
  exact h.elim (fun h => .inl (key _ h)) (fun h => .inr (key _ h))
def partB (x : RowI) : Nat → List UInt8
  | 0 => []
  | 1 => be4 x.1
  | _ => be4 x.1 ++ be4 x.2
theorem be4_cells (n : Int) : Lib.byteCells (be4 n) = [.int .u8 (n / 16777216 % 256), .int .u8 (n / 65536 % 256), .int .u8 (n / 256 % 256), .int .u8 (n % 256)] := by
  simp [Lib.byteCells, be4, by8_nat]
theorem byteCells_app (l m : List UInt8) : Lib.byteCells (l ++ m) = Lib.byteCells l ++ Lib.byteCells m := by simp [Lib.byteCells]
set_option maxRecDepth 100000 in
set_option maxHeartbeats 8000000 in
theorem ptext_any (v : Value) (l : List RowI) (w : World) (h : RowsR w w.heap.size v l) (hok : RowsOk l) (hlen : l.length * 8 ≤ 140737488351232) :
    Calls Tryz.prog 86 #[v] w fun e w' => e = .returned (.string (textB l)) ∧ Below w.heap.size w w' := by
  obtain ⟨A, c, rfl, hc, hm, hR⟩ := h
  have HR := Lib.hid hR
  have HOK := Lib.hid hok
  unfold maxLen at hm
  clear hR hok
  generalize hn : l.length = n at *
  have HN := Lib.hid hn
  have hn1 : (n : Int) ≤ 17592186043904 := by omega
  clear hn hc
  have HB0 := Lib.hid (show Lib.IsBuilder 185 5 w.heap.size w.heap.size (Lib.byteCells (tabB (l.take 0))) (w.alloc (.cells #[.pointer none, .slice none 0 0] 185)) from
      .inl ⟨Nat.le_refl _, .slice none 0 0, heap_alloc_new w _, World.ownsRow_nil _ _ _ _, by simp [Value.ownBlock]⟩)
  go_enter Tryz.func86, Tryz.ntmps86
  go_wp2
  go_loopw [10] (fun iv wr => ∃ p : Nat, iv = .int .i64 (p : Int) ∧ p ≤ n ∧ Lib.IsBuilder 185 5 w.heap.size w.heap.size (Lib.byteCells (tabB (l.take p))) wr ∧ Below w.heap.size w wr) (fun iv _ => n - (Lib.intOf iv).toNat)
  case atStart => exact ⟨0, rfl, Nat.zero_le _, HB0.out, (Below.refl _ _).alloc (Nat.le_refl _) _⟩
  case round =>
    obtain ⟨p, rfl, hp, hI, hB⟩ := hrel
    have HI := Lib.hid hI
    have HB := Lib.hid hB
    clear hI hB
    by_cases hlt : p < n
    · obtain ⟨x, hx⟩ := at_lt (l := l) (p := p) (by have := HN.out; omega)
      have hq : (p : Int) < (n : Int) := by omega
      obtain ⟨b1, o1, rfl, hb1, hcl1⟩ := (HR.out.below HB.out).spot (by omega) (by omega)
      have r0 := hcl1 _ _ (rowCells_at hx).1
      have r1 : wr.cell? ⟨b1, o1 + p * 2 + 1, none⟩ = some (.int .u32 x.2) := hcl1 _ _ (rowCells_at hx).2
      have HX := Lib.hid hx
      clear hcl1 hx
      have HI3 := Lib.hid (isb_more HI.out (.cells #[.int .u32 x.1, .int .u32 x.2] 73))
      have HB3 := Lib.hid (HB.out.alloc HB.out.size (.cells #[.int .u32 x.1, .int .u32 x.2] 73))
      go_wp2
      go_loopw [19] (fun iv wx => ∃ j : Nat, iv = .int .i64 (j : Int) ∧ j ≤ 2 ∧ Lib.IsBuilder 185 5 w.heap.size w.heap.size (Lib.byteCells (tabB (l.take p)) ++ Lib.byteCells (partB x j)) wx ∧ Below w.heap.size w wx) (fun iv _ => 2 - (Lib.intOf iv).toNat)
      case atStart => exact ⟨0, rfl, by omega, by simpa [partB, Lib.byteCells] using HI3.out, HB3.out⟩
      case round =>
        obtain ⟨j, rfl, hj, hI2, hB2⟩ := hrel
        obtain rfl | rfl | rfl : j = 0 ∨ j = 1 ∨ j = 2 := by omega
        · have HI2 := Lib.hid hI2
          have HB2 := Lib.hid hB2
          clear hI2 hB2 hj
          have i0 : ∀ w, (Instr.index 186 (.agg #[.int .u32 x.1, .int .u32 x.2]) (.int .i64 0)).run Tryz.prog w = .ok (.int .u32 x.1) w := fun _ => by kernel_rfl
          have HRN := Lib.hid (reads_new wr #[.int .u8 (x.1 / 16777216 % 256), .int .u8 (x.1 / 65536 % 256), .int .u8 (x.1 / 256 % 256), .int .u8 (x.1 % 256)] 5 1 4 rfl)
          have HIX := Lib.hid (isb_more HI2.out (.cells #[.int .u8 (x.1 / 16777216 % 256), .int .u8 (x.1 / 65536 % 256), .int .u8 (x.1 / 256 % 256), .int .u8 (x.1 % 256)] 5))
          have HBX := Lib.hid (HB2.out.alloc HB2.out.size (.cells #[.int .u8 (x.1 / 16777216 % 256), .int .u8 (x.1 / 65536 % 256), .int .u8 (x.1 / 256 % 256), .int .u8 (x.1 % 256)] 5))
          have HLT := Lib.hid (show w.heap.size < wr.heap.size from by obtain h | h := HI2.out <;> exact h.lt)
          have HLN := Lib.hid (show (Lib.byteCells (tabB (l.take p)) ++ Lib.byteCells (partB x 0)).length + 4 ≤ 140737488355328 by
            rw [List.length_append, Lib.byteCells_length, Lib.byteCells_length, tabB_len, List.length_take]
            have : (partB x 0).length = 0 := rfl
            have := HN.out
            omega)
          go_wp2_with (go_at_call 121; go_loud (refine (bwrite_any w.heap.size w.heap.size _ ⟨wr.heap.size, 0, none⟩ 4 4 _ _ HIX.out (by rw [World.size_alloc]; exact HRN.out) (by have := HLT.out; show wr.heap.size ≠ w.heap.size; omega) (by simp [Value.oneCell']) HLN.out HBX.out.size).mono ?_; rintro e w4 ⟨rfl, hb4, hbl4⟩; have HI4 := Lib.hid hb4; have HB4 := Lib.hid (HBX.out.trans hbl4); clear hb4 hbl4))
          go_roundw
          case rel =>
            refine ⟨0 + 1, rfl, by omega, .inr ?_, HB4.out⟩
            have h4 := HI4.out
            rw [← be4_cells, List.append_assoc, ← byteCells_app] at h4
            exact h4
          case measure => simp [Lib.intOf]
        · have HI2 := Lib.hid hI2
          have HB2 := Lib.hid hB2
          clear hI2 hB2 hj
          have i0 : ∀ w, (Instr.index 186 (.agg #[.int .u32 x.1, .int .u32 x.2]) (.int .i64 1)).run Tryz.prog w = .ok (.int .u32 x.2) w := fun _ => by kernel_rfl
          have HRN := Lib.hid (reads_new wr #[.int .u8 (x.2 / 16777216 % 256), .int .u8 (x.2 / 65536 % 256), .int .u8 (x.2 / 256 % 256), .int .u8 (x.2 % 256)] 5 1 4 rfl)
          have HIX := Lib.hid (isb_more HI2.out (.cells #[.int .u8 (x.2 / 16777216 % 256), .int .u8 (x.2 / 65536 % 256), .int .u8 (x.2 / 256 % 256), .int .u8 (x.2 % 256)] 5))
          have HBX := Lib.hid (HB2.out.alloc HB2.out.size (.cells #[.int .u8 (x.2 / 16777216 % 256), .int .u8 (x.2 / 65536 % 256), .int .u8 (x.2 / 256 % 256), .int .u8 (x.2 % 256)] 5))
          have HLT := Lib.hid (show w.heap.size < wr.heap.size from by obtain h | h := HI2.out <;> exact h.lt)
          have HLN := Lib.hid (show (Lib.byteCells (tabB (l.take p)) ++ Lib.byteCells (partB x 1)).length + 4 ≤ 140737488355328 by
            rw [List.length_append, Lib.byteCells_length, Lib.byteCells_length, tabB_len, List.length_take]
            have : (partB x 1).length = 4 := rfl
            have := HN.out
            omega)
          go_wp2_with (go_at_call 121; go_loud (refine (bwrite_any w.heap.size w.heap.size _ ⟨wr.heap.size, 0, none⟩ 4 4 _ _ HIX.out (by rw [World.size_alloc]; exact HRN.out) (by have := HLT.out; show wr.heap.size ≠ w.heap.size; omega) (by simp [Value.oneCell']) HLN.out HBX.out.size).mono ?_; rintro e w4 ⟨rfl, hb4, hbl4⟩; have HI4 := Lib.hid hb4; have HB4 := Lib.hid (HBX.out.trans hbl4); clear hb4 hbl4))
          go_roundw
          case rel =>
            refine ⟨1 + 1, rfl, by omega, .inr ?_, HB4.out⟩
            have h4 := HI4.out
            rw [← be4_cells, List.append_assoc, ← byteCells_app] at h4
            exact h4
          case measure => simp [Lib.intOf]
        · have HI2 := Lib.hid (show Lib.IsBuilder 185 5 w.heap.size w.heap.size (Lib.byteCells (tabB (l.take (p + 1)))) wr from by
            rw [List.take_add_one, HX.out]
            simp only [Option.toList_some]
            rw [tabB_snoc, byteCells_app]
            exact hI2)
          have HB2 := Lib.hid hB2
          clear hI2 hB2 hj
          go_wp2
          go_roundw
          case rel => exact ⟨p + 1, by go_num, hlt, HI2.out, HB2.out⟩
          case measure => simp [Lib.intOf]; omega
    · obtain rfl : p = n := by omega
      have hq : ¬ (p : Int) < (p : Int) := by omega
      have HT := Lib.hid (show l.take p = l from List.take_of_length_le (by rw [HN.out]; exact Nat.le_refl _))
      rw [HT.out] at HI
      have HST := Lib.hid (Go.Proofs.Any.Builder_String_any buildS buildXS w.heap.size w.heap.size (tabB l) wr HI.out HB.out.size)
      go_wp2_with (go_at_call 122; go_loud (refine HST.out.mono ?_; rintro e w5 ⟨rfl, hb5⟩; have HB5 := Lib.hid (HB.out.trans hb5); clear hb5))
      go_ret
      exact ⟨rfl, HB5.out⟩
end Go.Proofs.YtfpepdjffehbcaaGreat
/-
  The walk of the document's PutTable: rising tables with one more. Condition: at most 1000000 tables.
-/
set_option linter.unusedVariables false
set_option linter.unusedSimpArgs false
namespace Go.Proofs.YtfpepdjffehbcaaGreat
open Go.RowKit

/-- Tables, read. -/
def TabsP (w : World) (B : Nat) (v : Value) (ps : List (Value × List RowI)) : Prop := ∃ A c, v = .slice A ps.length c ∧ ps.length ≤ c ∧ c ≤ maxLen ∧ Reads w B 1 A ps.length (ps.map Prod.fst) ∧ ∀ x ∈ ps, RowsR w B x.1 x.2
theorem TabsP.below {w w' : World} {B : Nat} {v : Value} {ps : List (Value × List RowI)} (h : TabsP w B v ps) (hb : Below B w w') : TabsP w' B v ps := by
  obtain ⟨A, c, e, h1, h2, h3, h4⟩ := h
  exact ⟨A, c, e, h1, h2, h3.below hb, fun x hx => (h4 x hx).below hb⟩
theorem TabsP.more {w : World} {B B' : Nat} {v : Value} {ps : List (Value × List RowI)} (h : TabsP w B v ps) (hB : B ≤ B') : TabsP w B' v ps := by
  obtain ⟨A, c, e, h1, h2, h3, h4⟩ := h
  exact ⟨A, c, e, h1, h2, Reads.more h3 hB, fun x hx => (h4 x hx).more hB⟩
theorem TabsP.on {w w' : World} {v : Value} {ps : List (Value × List RowI)} (h : TabsP w w.heap.size v ps) (hb : Below w.heap.size w w') : TabsP w' w'.heap.size v ps := (h.below hb).more hb.size
theorem tabs_of_own {w : World} {base : Nat} {e : TypeId} {v : Value} {ps : List (Value × List RowI)} (h : w.ownsRow base e 1 v ps.length (ps.map Prod.fst)) (hr : ∀ x ∈ ps, RowsR w w.heap.size x.1 x.2) : TabsP w w.heap.size v ps := by
  obtain ⟨A, c, e, h1, h2, h3⟩ := own_form h
  exact ⟨A, c, e, h1, h2, h3, hr⟩
theorem tabs_nil (w : World) (B : Nat) : TabsP w B (.slice none 0 0) [] := ⟨none, 0, rfl, Nat.le_refl _, by simp [maxLen], Reads.none_, fun x hx => by cases hx⟩
theorem tab_cell {ps : List (Value × List RowI)} {i : Nat} {x : Value × List RowI} (h : ps[i]? = some x) : (ps.map Prod.fst)[i]? = some x.1 := by simp [h]
theorem rows_one {w : World} {B : Nat} {v : Value} {l : List RowI} (h : RowsR w B v l) : v.oneCell' = true := by
  obtain ⟨A, c, rfl, -⟩ := h
  rfl
theorem tab_take {ps : List (Value × List RowI)} {p : Nat} {x : Value × List RowI} (h : ps[p]? = some x) : (ps.take (p + 1)).map Prod.fst = (ps.take p).map Prod.fst ++ [x.1] := by
  rw [List.take_add_one, h]
  simp
theorem tabInfo : (Tryz.prog.info? 50).map (fun i => (i.zero, i.size, i.bytes)) = some (some (.slice none 0 0), 1, 24) := by kernel_rfl
def PutTabPost (l : List (List RowI)) (t : List RowI) (w : World) (e : Ending) (w' : World) : Prop := (∃ v ps, e = .returned v ∧ ps.map Prod.snd = insL tl l t ∧ TabsP w' w'.heap.size v ps) ∧ Below w.heap.size w w'
/-- One put between. -/
theorem tab_mid {ps : List (Value × List RowI)} {s : Value × List RowI} {p : Nat} (hp : p ≤ ps.length) : (ps.take p ++ s :: ps.drop p).length = ps.length + 1 ∧ ((ps.take p ++ s :: ps.drop p).take (p + 1)).map Prod.fst = (ps.take p).map Prod.fst ++ [s.1] ∧
    (∀ j x, p ≤ j → ps[j]? = some x → (ps.take p ++ s :: ps.drop p)[j + 1]? = some x) ∧ ∀ x ∈ ps.take p ++ s :: ps.drop p, x = s ∨ x ∈ ps := by
  have h1 : (ps.take p).length = p := by rw [List.length_take]; omega
  refine ⟨by simp; omega, ?_, fun j x hj hx => ?_, fun x hx => ?_⟩
  · rw [List.take_append, h1, show p + 1 - p = 1 by omega, List.take_take]
    simp
  · rw [List.getElem?_append_right (by omega), h1, show j + 1 - p = (j - p) + 1 by omega, List.getElem?_cons_succ, List.getElem?_drop, show p + (j - p) = j by omega]
    exact hx
  · rcases List.mem_append.1 hx with hx | hx
    · exact .inr (List.mem_of_mem_take hx)
    · rcases List.mem_cons.1 hx with hx | hx
      · exact .inl hx
      · exact .inr (List.mem_of_mem_drop hx)
/-- Where PutTable stops looking. -/
theorem tab_ins {ps : List (Value × List RowI)} {tv : Value} {t : List RowI} {p : Nat} (h0 : ∀ (j : Nat) (x : Value × List RowI), j < p → ps[j]? = some x → tl x.2 t = true) (hp : p ≤ ps.length) (h1 : ∀ x, ps[p]? = some x → tl x.2 t = false) :
    ((∃ x, ps[p]? = some x ∧ x.2 = t) → insL tl (ps.map Prod.snd) t = ps.map Prod.snd) ∧ ((∀ x, ps[p]? = some x → x.2 ≠ t) → insL tl (ps.map Prod.snd) t = (ps.take p ++ (tv, t) :: ps.drop p).map Prod.snd) := by
  have hs := insL_split (lt := tl) (ps.map Prod.snd) t p (fun j x hj hx => by
    rw [List.getElem?_map] at hx
    cases hy : ps[j]? with
    | none => rw [hy] at hx; cases hx
    | some y => rw [hy] at hx; cases hx; exact h0 j y hj hy) (by simpa using hp) (fun x hx => by
    rw [List.getElem?_map] at hx
    cases hy : ps[p]? with
    | none => rw [hy] at hx; cases hx
    | some y => rw [hy] at hx; cases hx; exact h1 y hy)
  refine ⟨fun ⟨x, hx, e⟩ => ?_, fun h => ?_⟩
  · rw [hs, if_pos (by rw [List.getElem?_map, hx, Option.map_some, e])]
  · rw [hs, if_neg (fun e => by
      rw [List.getElem?_map] at e
      cases hy : ps[p]? with
      | none => rw [hy] at e; cases e
      | some y => rw [hy] at e; exact h y hy (Option.some.inj e))]
    simp
set_option maxRecDepth 100000 in
set_option maxHeartbeats 16000000 in
theorem puttable_any (v tv : Value) (ps : List (Value × List RowI)) (t : List RowI) (w : World) (h : TabsP w w.heap.size v ps) (ht : RowsR w w.heap.size tv t) (hlen : ps.length ≤ 1000000) :
    Calls Tryz.prog 46 #[v, tv] w (PutTabPost (ps.map Prod.snd) t w) := by
  obtain ⟨A, c, rfl, hc, hm, hR, hRs⟩ := id h
  obtain ⟨At, ct, rfl, -⟩ := id ht
  have HT0 := Lib.hid h
  have HR := Lib.hid hR
  have HRS := Lib.hid hRs
  have HTV := Lib.hid ht
  unfold maxLen at hm
  clear hR hRs h ht
  generalize hn : ps.length = n at *
  have HN := Lib.hid hn
  have hn1 : (n : Int) ≤ 1000000 := by omega
  clear hn
  obtain ⟨i0, hi0, hz0, hz1, hz2⟩ := info_parts tabInfo
  go_enter Tryz.func46, Tryz.ntmps46
  go_wp2
  go_loopw [5, 6] (fun ov iv wr => ∃ p : Nat, iv = .int .i64 (p : Int) ∧ p ≤ n ∧ (∀ (j : Nat) (x : Value × List RowI), j < p → ps[j]? = some x → tl x.2 t = true) ∧ wr.ownsRow w.heap.size 50 1 ov p ((ps.take p).map Prod.fst) ∧ Below w.heap.size w wr) (fun _ iv _ => n - (Lib.intOf iv).toNat)
  case atStart => exact ⟨0, rfl, Nat.zero_le _, fun j x h => absurd h (by omega), World.ownsRow_nil _ _ _ _, Below.refl _ _⟩
  case round =>
    obtain ⟨p, rfl, hp, hT, hO, hB⟩ := hrel
    have HT := Lib.hid hT
    have HO := Lib.hid hO
    have HB := Lib.hid hB
    clear hT hO hB
    by_cases hlt : p < n
    · obtain ⟨⟨xv, xl⟩, hx⟩ := at_lt (l := ps) (p := p) (by have := HN.out; omega)
      have hq : (p : Int) < (n : Int) := by omega
      obtain ⟨b1, o1, rfl, hb1, hcl1⟩ := (HR.out.below HB.out).spot (by omega) (by omega)
      have hXR := HRS.out _ (List.mem_of_getElem? hx)
      obtain ⟨A3, c3, e3, -⟩ := id hXR
      simp only at e3
      subst e3
      have HXR := Lib.hid hXR
      clear hXR
      have r0 : wr.cell? ⟨b1, o1 + p, none⟩ = some (.slice A3 xl.length c3) := hcl1 _ _ (tab_cell hx)
      have HX := Lib.hid hx
      have HCM := Lib.hid (fun W (h : Below w.heap.size w W) => refcompare_any (Value.slice A3 xl.length c3) (Value.slice At t.length ct) xl t W (HXR.out.on h) (HTV.out.on h))
      clear hcl1 hx
      rcases cmpT_cases xl t with ⟨h1, h2⟩ | ⟨h1, h2, h3⟩ | ⟨h1, h2, h3⟩
      · have HBL := Lib.hid h1
        rw [h2] at HCM
        clear h1 h2
        go_upto_region 4 with (go_at_call 23; go_loud (refine (HCM.out _ HB.out).mono ?_; rintro en W ⟨vv, q, rfl, rfl, rfl⟩; have HO2 := Lib.hid (show (wr.drewN q).ownsRow w.heap.size 50 1 _ p ((ps.take p).map Prod.fst) from HO.out); have HB2 := Lib.hid (below_drewN HB.out q)))
        have HA := Lib.hid (fun q : Nat => And.intro ((show (wr.drewN q).ownsRow w.heap.size 50 1 _ p ((ps.take p).map Prod.fst) from HO.out).alloc (.cells #[Value.slice A3 xl.length c3] 50)) (And.intro (reads_new (wr.drewN q) #[Value.slice A3 xl.length c3] 50 1 1 rfl) (show w.heap.size ≤ ((wr.drewN q).alloc (.cells #[Value.slice A3 xl.length c3] 50)).heap.size by have := HB.out.size; simp; omega)))
        go_wp2_with (at_builtin; go_loud (refine wpList_append_any _ rfl (.tmp 20) (.tmp 25) _ rfl w.heap.size 50 i0 _ 1 24 Tryz.underlying43 hi0 hz0 hz1 hz2 rfl (by omega) _ p ((ps.take p).map Prod.fst) rfl (HA.out _).1 (wr.heap.size + 1) (some ⟨wr.heap.size, 0, none⟩) 1 1 [Value.slice A3 xl.length c3] rfl (HA.out _).2.1 (by simp [Value.oneCell']) (by simp only [maxLen]; omega) (by omega) (HA.out 0).2.2 ?_); intro v3 w3 hown3 hg3 hat3; have HOW := Lib.hid hown3; have HG := Lib.hid hg3; clear hown3 hg3 hat3)
        go_roundw
        case rel =>
          refine ⟨p + 1, by go_num, hlt, fun j y hj hy => ?_, by rw [tab_take HX.out]; exact HOW.out, ?_⟩
          · rcases Nat.lt_or_ge j p with h | h
            · exact HT.out j y h hy
            · obtain rfl : j = p := by omega
              rw [HX.out] at hy
              cases hy
              exact HBL.out
          · exact (HB2.out.alloc HB2.out.size _).grown HG.out (HA.out 0).2.2 (fun k hk => (HO.out.lt k hk).1)
        case measure => simp [Lib.intOf]; omega
      · rw [h3] at HCM
        have HIN := Lib.hid ((tab_ins (tv := (Value.slice At t.length ct)) (t := t) HT.out (by rw [HN.out]; exact hp) (fun y hy => by rw [HX.out] at hy; cases hy; exact h2)).1 ⟨_, HX.out, h1⟩)
        clear h1 h2 h3
        go_wp2_with (go_at_call 23; go_loud (first
          | (refine (HCM.out _ HB.out).mono ?_; rintro en W ⟨vv, q, rfl, rfl, rfl⟩)
          | (refine (HCM.out _ (below_drewN HB.out _)).mono ?_; rintro en W ⟨vv, q, rfl, rfl, rfl⟩)))
        go_ret
        exact ⟨⟨_, ps, rfl, HIN.out.symm, HT0.out.on (below_drewN HB.out _)⟩, below_drewN HB.out _⟩
      · rw [h3] at HCM
        have HIN := Lib.hid ((tab_ins (tv := (Value.slice At t.length ct)) (t := t) HT.out (by rw [HN.out]; exact hp) (fun y hy => by rw [HX.out] at hy; cases hy; exact h1)).2 (fun y hy => by rw [HX.out] at hy; cases hy; exact h2))
        have HMID := Lib.hid (tab_mid (s := ((Value.slice At t.length ct), t)) (show p ≤ ps.length by rw [HN.out]; exact hp))
        have HA := Lib.hid (fun q : Nat => And.intro ((show (wr.drewN q).ownsRow w.heap.size 50 1 _ p ((ps.take p).map Prod.fst) from HO.out).alloc (.cells #[(Value.slice At t.length ct)] 50)) (And.intro (reads_new (wr.drewN q) #[(Value.slice At t.length ct)] 50 1 1 rfl) (show w.heap.size ≤ ((wr.drewN q).alloc (.cells #[(Value.slice At t.length ct)] 50)).heap.size by have := HB.out.size; simp; omega)))
        clear h1 h2 h3
        go_upto_region 8 with (go_at_call 23; go_loud (first
          | (refine (HCM.out _ HB.out).mono ?_; rintro en W ⟨vv, q, rfl, rfl, rfl⟩)
          | (refine (HCM.out _ (below_drewN HB.out _)).mono ?_; rintro en W ⟨vv, q, rfl, rfl, rfl⟩)))
        go_wp2_with (at_builtin; go_loud (refine wpList_append_any _ rfl (.tmp 43) (.tmp 45) _ rfl w.heap.size 50 i0 _ 1 24 Tryz.underlying43 hi0 hz0 hz1 hz2 rfl (by omega) _ p ((ps.take p).map Prod.fst) rfl (HA.out _).1 (wr.heap.size + 1) (some ⟨wr.heap.size, 0, none⟩) 1 1 [(Value.slice At t.length ct)] rfl (HA.out _).2.1 (by simp [Value.oneCell']) (by simp only [maxLen]; omega) (by omega) (HA.out 0).2.2 ?_); intro v3 w3 hown3 hg3 hat3; have HOW := Lib.hid (HMID.out.2.1.symm.subst (motive := fun z => w3.ownsRow w.heap.size 50 1 v3 (p + 1) z) hown3); have HB3 := Lib.hid (show Below w.heap.size w w3 from ((below_drewN HB.out _).alloc (below_drewN HB.out _).size _).grown hg3 (HA.out 0).2.2 (fun k hk => (HO.out.lt k hk).1)); clear hown3 hg3 hat3)
        clear HA HO HB
        generalize ps.take p ++ ((Value.slice At t.length ct), t) :: ps.drop p = m at *
        go_loopw [5, 6] (fun ov iv wr => ∃ j : Nat, iv = .int .i64 (j : Int) ∧ p ≤ j ∧ j ≤ n ∧ wr.ownsRow w.heap.size 50 1 ov (j + 1) ((m.take (j + 1)).map Prod.fst) ∧ Below w.heap.size w wr) (fun _ iv _ => n - (Lib.intOf iv).toNat)
        case atStart => exact ⟨p, rfl, Nat.le_refl _, hp, HOW.out, HB3.out⟩
        case round =>
          obtain ⟨j, rfl, hpj, hj, hO, hB⟩ := hrel
          have HO := Lib.hid hO
          have HB := Lib.hid hB
          clear hO hB
          by_cases hlt2 : j < n
          · obtain ⟨⟨yv, yl⟩, hy⟩ := at_lt (l := ps) (p := j) (by have := HN.out; omega)
            have hq2 : (j : Int) < (n : Int) := by omega
            have hMY := HMID.out.2.2.1 j _ hpj hy
            obtain ⟨A4, c4, e4, -⟩ := HRS.out _ (List.mem_of_getElem? hy)
            simp only at e4
            subst e4
            have HMY := Lib.hid hMY
            clear hMY
            obtain ⟨b2, o2, e2, hb2, hcl2⟩ := (HR.out.below HB.out).spot (by omega) (by omega)
            cases e2
            have r2 : wr.cell? ⟨b1, o1 + j, none⟩ = some (.slice A4 yl.length c4) := hcl2 _ _ (tab_cell hy)
            clear hcl2 hy
            have HA := Lib.hid (And.intro (HO.out.alloc (.cells #[Value.slice A4 yl.length c4] 50)) (And.intro (reads_new wr #[Value.slice A4 yl.length c4] 50 1 1 rfl) (show w.heap.size ≤ (wr.alloc (.cells #[Value.slice A4 yl.length c4] 50)).heap.size by have := HB.out.size; simp; omega)))
            go_wp2_with (at_builtin; go_loud (refine wpList_append_any _ rfl (.tmp 51) (.tmp 56) _ rfl w.heap.size 50 i0 _ 1 24 Tryz.underlying43 hi0 hz0 hz1 hz2 rfl (by omega) _ (j + 1) ((m.take (j + 1)).map Prod.fst) rfl HA.out.1 (wr.heap.size + 1) (some ⟨wr.heap.size, 0, none⟩) 1 1 [Value.slice A4 yl.length c4] rfl HA.out.2.1 (by simp [Value.oneCell']) (by simp only [maxLen]; omega) (by omega) HA.out.2.2 ?_); intro v4 w4 hown3 hg3 hat3; have HOX := Lib.hid hown3; have HG := Lib.hid hg3; clear hown3 hg3 hat3)
            go_roundw
            case rel =>
              refine ⟨j + 1, by go_num, by omega, hlt2, by rw [tab_take HMY.out]; exact HOX.out, ?_⟩
              exact (HB.out.alloc HB.out.size _).grown HG.out HA.out.2.2 (fun k hk => (HO.out.lt k hk).1)
            case measure => simp [Lib.intOf]; omega
          · obtain rfl : j = n := by omega
            have hq2 : ¬ (j : Int) < (j : Int) := by omega
            have HZ := Lib.hid (show m.take (j + 1) = m from List.take_of_length_le (by rw [HMID.out.1, HN.out]; exact Nat.le_refl _))
            have HML := Lib.hid (show m.length = j + 1 by rw [HMID.out.1, HN.out])
            have HO := Lib.hid (HZ.out.subst (motive := fun z => wr.ownsRow w.heap.size 50 1 _ (j + 1) (z.map Prod.fst)) HO.out)
            have HMS := Lib.hid (fun x (hx : x ∈ m) => show RowsR wr wr.heap.size x.1 x.2 from by
              rcases HMID.out.2.2.2 x hx with e | e
              · rw [e]; exact HTV.out.on HB.out
              · exact (HRS.out x e).on HB.out)
            go_wp2
            go_ret
            exact ⟨⟨_, m, rfl, HIN.out.symm, tabs_of_own (by rw [HML.out]; exact HO.out) HMS.out⟩, HB.out⟩
    · obtain rfl : p = n := by omega
      have hq : ¬ (p : Int) < (p : Int) := by omega
      have HIN := Lib.hid ((tab_ins (tv := (Value.slice At t.length ct)) (t := t) HT.out (by rw [HN.out]; exact hp) (fun y hy => by rw [List.getElem?_eq_none (by rw [HN.out]; omega)] at hy; cases hy)).2 (fun y hy => by rw [List.getElem?_eq_none (by rw [HN.out]; omega)] at hy; cases hy))
      have HMID := Lib.hid (tab_mid (s := ((Value.slice At t.length ct), t)) (show p ≤ ps.length by rw [HN.out]; exact hp))
      have HA := Lib.hid (fun q : Nat => And.intro ((show (wr.drewN q).ownsRow w.heap.size 50 1 _ p ((ps.take p).map Prod.fst) from HO.out).alloc (.cells #[(Value.slice At t.length ct)] 50)) (And.intro (reads_new (wr.drewN q) #[(Value.slice At t.length ct)] 50 1 1 rfl) (show w.heap.size ≤ ((wr.drewN q).alloc (.cells #[(Value.slice At t.length ct)] 50)).heap.size by have := HB.out.size; simp; omega)))
      go_wp2_with (at_builtin; go_loud (refine wpList_append_any _ rfl (.tmp 43) (.tmp 45) _ rfl w.heap.size 50 i0 _ 1 24 Tryz.underlying43 hi0 hz0 hz1 hz2 rfl (by omega) _ p ((ps.take p).map Prod.fst) rfl (HA.out 0).1 (wr.heap.size + 1) (some ⟨wr.heap.size, 0, none⟩) 1 1 [(Value.slice At t.length ct)] rfl (HA.out 0).2.1 (by simp [Value.oneCell']) (by simp only [maxLen]; omega) (by omega) (HA.out 0).2.2 ?_); intro v3 w3 hown3 hg3 hat3; have HOW := Lib.hid (HMID.out.2.1.symm.subst (motive := fun z => w3.ownsRow w.heap.size 50 1 v3 (p + 1) z) hown3); have HB3 := Lib.hid (show Below w.heap.size w w3 from ((below_drewN HB.out 0).alloc (below_drewN HB.out 0).size _).grown hg3 (HA.out 0).2.2 (fun k hk => (HO.out.lt k hk).1)); clear hown3 hg3 hat3)
      clear HA HO HB
      generalize ps.take p ++ ((Value.slice At t.length ct), t) :: ps.drop p = m at *
      go_loopw [5, 6] (fun ov iv wr => ∃ j : Nat, iv = .int .i64 (j : Int) ∧ p ≤ j ∧ j ≤ p ∧ wr.ownsRow w.heap.size 50 1 ov (j + 1) ((m.take (j + 1)).map Prod.fst) ∧ Below w.heap.size w wr) (fun _ iv _ => p - (Lib.intOf iv).toNat)
      case atStart => exact ⟨p, rfl, Nat.le_refl _, hp, HOW.out, HB3.out⟩
      case round =>
        obtain ⟨j, rfl, hpj, hj, hO, hB⟩ := hrel
        have HO := Lib.hid hO
        have HB := Lib.hid hB
        clear hO hB
        by_cases hlt2 : j < p
        · exact absurd hlt2 (by omega)
        · obtain rfl : j = p := by omega
          have hq2 : ¬ (j : Int) < (j : Int) := by omega
          have HZ := Lib.hid (show m.take (j + 1) = m from List.take_of_length_le (by rw [HMID.out.1, HN.out]; exact Nat.le_refl _))
          have HML := Lib.hid (show m.length = j + 1 by rw [HMID.out.1, HN.out])
          have HO := Lib.hid (HZ.out.subst (motive := fun z => wr.ownsRow w.heap.size 50 1 _ (j + 1) (z.map Prod.fst)) HO.out)
          have HMS := Lib.hid (fun x (hx : x ∈ m) => show RowsR wr wr.heap.size x.1 x.2 from by
            rcases HMID.out.2.2.2 x hx with e | e
            · rw [e]; exact HTV.out.on HB.out
            · exact (HRS.out x e).on HB.out)
          go_wp2
          go_ret
          exact ⟨⟨_, m, rfl, HIN.out.symm, tabs_of_own (by rw [HML.out]; exact HO.out) HMS.out⟩, HB.out⟩
end Go.Proofs.YtfpepdjffehbcaaGreat
/-
  The walk of pool.Seek: the value of a key in a table. Condition: the table is within the reach.
-/
set_option linter.unusedVariables false
set_option linter.unusedSimpArgs false
namespace Go.Proofs.YtfpepdjffehbcaaGreat
open Go.RowKit Go.Shelf Go.Sort

/-- What Seek tells. -/
def SeekT (l : List RowI) (s : Int) (k e : Int) : Prop :=
  (¬ RiseL kl l ∧ k = 0 ∧ e = 2) ∨ (RiseL kl l ∧ (∀ y ∈ l, y.1 ≠ s) ∧ k = 0 ∧ e = 4) ∨ (RiseL kl l ∧ e = 0 ∧ (s, k) ∈ l)
def SeekPost (l : List RowI) (s : Int) (w : World) (e : Ending) (w' : World) : Prop := (∃ k x, e = .returned (.tuple #[.int .u32 k, .int .i64 x]) ∧ SeekT l s k x) ∧ Below w.heap.size w w'
end Go.Proofs.YtfpepdjffehbcaaGreat
/-
  The walk of pool.Fold: unlike tables told once, and where each is. Condition: at most 1000000 tables, each within the reach, its numbers of 32 bits.
-/
set_option linter.unusedVariables false
set_option linter.unusedSimpArgs false
namespace Go.Proofs.YtfpepdjffehbcaaGreat
open Go.RowKit Go.Shelf

theorem keyOf_string_inv {P : Program} {k : TypeId} (hk : P.underlying k = some .string) {key : Value} {kl : Lit} (h : keyOf P k key = some kl) : ∃ x : ByteArray, key = .string x ∧ kl = strL x ∧ x.size ≤ maxLen := by
  cases key <;> simp [keyOf, hk, mapKey] at h
  rename_i x
  obtain ⟨h1, h2⟩ := h
  exact ⟨x, rfl, h2.symm, h1⟩
theorem zero_rows (w : World) : (zeroValue 50).run Tryz.prog w = .ok (.slice none 0 0) w := by kernel_rfl
theorem intInfo : (Tryz.prog.info? 3).map (fun i => (i.zero, i.size, i.bytes)) = some (some (.int .i64 0), 1, 8) := by kernel_rfl
/-- A row of its own. -/
def OwnRw (w : World) (B : Nat) (v : Value) (t : List RowI) : Prop := w.ownsRow B 73 2 v t.length (rowCells t)
/-- Tables, a row of its own each, in a row of its own. -/
def OTabs (w : World) (B : Nat) (v : Value) (ps : List (Value × List RowI)) : Prop := w.ownsRow B 50 1 v ps.length (ps.map Prod.fst) ∧ ∀ x ∈ ps, OwnRw w B x.1 x.2
theorem OTabs.tabs {w : World} {B : Nat} {v : Value} {ps : List (Value × List RowI)} (h : OTabs w B v ps) : TabsP w w.heap.size v ps := tabs_of_own h.1 fun x hx => rows_of_own (h.2 x hx)
/-- What the map of texts holds behind p tables. -/
def FoldMap (w : World) (B : Nat) (ls : List (List RowI)) (p : Nat) (f : ByteArray → Option Value) : Prop :=
  (∀ s v, f s = some v → ∃ t, s = textB t ∧ t ∈ ls.take p ∧ OwnRw w B v t) ∧ ∀ t ∈ ls.take p, (f (textB t)).isSome = true
theorem FoldMap.start (w : World) (B : Nat) (ls : List (List RowI)) : FoldMap w B ls 0 (fun _ => none) := ⟨(fun s v h => by cases h), fun t ht => by simp at ht⟩
theorem FoldMap.keep {w w' : World} {B : Nat} {ls : List (List RowI)} {p : Nat} {f : ByteArray → Option Value} (h : FoldMap w B ls p f) (hk : ∀ v t, OwnRw w B v t → OwnRw w' B v t) : FoldMap w' B ls p f :=
  ⟨fun s v hv => by obtain ⟨t, h1, h2, h3⟩ := h.1 s v hv; exact ⟨t, h1, h2, hk v t h3⟩, h.2⟩
theorem FoldMap.put {w : World} {B : Nat} {ls : List (List RowI)} {p : Nat} {f : ByteArray → Option Value} {t : List RowI} {v : Value} (h : FoldMap w B ls p f) (ht : ls[p]? = some t) (hv : OwnRw w B v t) : FoldMap w B ls (p + 1) (putMF f (textB t) v) := by
  have hs : ls.take (p + 1) = ls.take p ++ [t] := by rw [List.take_add_one, ht]; rfl
  refine ⟨fun s u hu => ?_, fun u hu => ?_⟩
  · unfold putMF at hu
    split at hu
    · rename_i e
      cases hu
      exact ⟨t, e, by rw [hs]; simp, hv⟩
    · obtain ⟨t', h1, h2, h3⟩ := h.1 s u hu
      exact ⟨t', h1, by rw [hs]; exact List.mem_append_left _ h2, h3⟩
  · unfold putMF
    split
    · rfl
    · rename_i e
      rw [hs] at hu
      rcases List.mem_append.1 hu with hu | hu
      · exact h.2 u hu
      · simp only [List.mem_singleton] at hu
        exact absurd (by rw [hu]) e
theorem rows_map {w w' : World} {B b n m : Nat} {f : ByteArray → Option Value} (hm : MapS w b n m f) (hO : Only b w w') (v : Value) (t : List RowI) (h : OwnRw w B v t) : OwnRw w' B v t := World.ownsRow.kept h hO (by
  cases hk : v.ownBlock with
  | none => exact .inl rfl
  | some k => exact .inr (by rw [← hk]; exact own_map hm h))
/-- Numbers, read. -/
def IntsR (w : World) (B : Nat) (v : Value) (ks : List Nat) : Prop := ∃ A c, v = .slice A ks.length c ∧ ks.length ≤ c ∧ c ≤ maxLen ∧ Reads w B 1 A ks.length (ks.map fun k : Nat => Value.int .i64 (k : Int))
theorem ints_of_own {w : World} {base : Nat} {e : TypeId} {v : Value} {ks : List Nat} (h : w.ownsRow base e 1 v ks.length (ks.map fun k : Nat => Value.int .i64 (k : Int))) : IntsR w w.heap.size v ks := own_form h
theorem IntsR.on {w w' : World} {v : Value} {ks : List Nat} (h : IntsR w w.heap.size v ks) (hb : Below w.heap.size w w') : IntsR w' w'.heap.size v ks := by
  obtain ⟨A, c, e, h1, h2, h3⟩ := h
  exact ⟨A, c, e, h1, h2, (h3.below hb).more hb.size⟩
def FoldPost (ls : List (List RowI)) (w : World) (e : Ending) (w' : World) : Prop :=
  ((¬ (∀ t ∈ ls, RiseL kl t) ∧ e = .returned (.tuple #[.slice none 0 0, .slice none 0 0, .int .i64 2])) ∨
   ((∀ t ∈ ls, RiseL kl t) ∧ ∃ v av ps ks, e = .returned (.tuple #[v, av, .int .i64 0]) ∧ ps.map Prod.snd = poolL tl ls ∧ OTabs w' w.heap.size v ps ∧ w'.ownsRow w.heap.size 3 1 av ks.length (ks.map fun k : Nat => Value.int .i64 (k : Int)) ∧ FoldAt ls ks)) ∧ Below w.heap.size w w'
/-- All keys that the map has. -/
theorem keys_all {w : World} {ls : List (List RowI)} {f : ByteArray → Option Value} {ks : List ByteArray} {B : Nat} (hF : FoldMap w B ls ls.length f) (hok : ∀ t ∈ ls, RowsOk t) (hsz : ∀ t ∈ ls, t.length * 8 ≤ 140737488351232) (hnd : ks.Nodup)
    (hk : ∀ s, strOk s → ((f s).isSome = true ↔ s ∈ ks)) (hks : ∀ s ∈ ks, strOk s) : sortT ks = (poolL tl ls).map textB := by
  rw [sortT_pool hnd, ← pool_texts hok]
  refine poolL_congr blT fun s => ⟨fun hs => ?_, fun hs => ?_⟩
  · have h1 := (hk s (hks s hs)).2 hs
    obtain ⟨v, hv⟩ := Option.isSome_iff_exists.1 h1
    obtain ⟨t, h2, h3, -⟩ := hF.1 s v hv
    rw [List.take_length] at h3
    exact List.mem_map.2 ⟨t, h3, h2.symm⟩
  · obtain ⟨t, ht, rfl⟩ := List.mem_map.1 hs
    refine (hk _ ?_).1 (hF.2 t (by rw [List.take_length]; exact ht))
    have := hsz t ht
    show (textB t).size ≤ maxLen
    rw [textB_size]
    simp only [maxLen]
    omega
theorem fold_snoc {ls : List (List RowI)} {ks : List Nat} {p k : Nat} {t : List RowI} (h : ks.length = p ∧ ∀ (i : Nat) (t : List RowI), i < p → ls[i]? = some t → ∃ k, ks[i]? = some k ∧ (poolL tl ls)[k]? = some t) (ht : ls[p]? = some t) (hk : (poolL tl ls)[k]? = some t) :
    (ks ++ [k]).length = p + 1 ∧ ∀ (i : Nat) (t : List RowI), i < p + 1 → ls[i]? = some t → ∃ k', (ks ++ [k])[i]? = some k' ∧ (poolL tl ls)[k']? = some t := by
  refine ⟨by simp [h.1], fun i t' hi ht' => ?_⟩
  rcases Nat.lt_or_ge i p with h1 | h1
  · obtain ⟨k', h2, h3⟩ := h.2 i t' h1 ht'
    exact ⟨k', by rw [List.getElem?_append_left (by rw [h.1]; exact h1)]; exact h2, h3⟩
  · obtain rfl : i = p := by omega
    rw [ht] at ht'
    cases ht'
    exact ⟨k, by rw [List.getElem?_append_right (by rw [h.1]; exact Nat.le_refl _), h.1]; simp, hk⟩
/-- The halving among the texts of tables. -/
theorem bsearch_any (A : Option Addr) (c N : Nat) (ls : List (List RowI)) (t : List RowI) (k : Nat) (w : World) (hN : (poolL tl ls).length = N) (h : Reads w w.heap.size 1 A N (((poolL tl ls).map textB).map Value.string)) (hok : ∀ t ∈ ls, RowsOk t) (hk : (poolL tl ls)[k]? = some t) (hl : N ≤ 1000000) :
    Calls Tryz.prog 87 #[.slice A N c, .string (textB t)] w fun e w' => (∃ o, e = .returned (.tuple #[.int .i64 (k : Nat), o])) ∧ ∃ q, w' = w.drewN q := by
  subst hN
  have hkl := (List.getElem?_eq_some_iff.1 hk).1
  obtain ⟨b, o, rfl, hb, hcl⟩ := h.spot (by omega) (by omega)
  refine (Go.Proofs.Any2.slices_BinarySearch_string binS b o (poolL tl ls).length c (fun j => (((poolL tl ls).map textB)[j]?).getD (textB t)) (textB t) w (by omega) (fun j hj => ?_)).mono ?_
  · refine hcl j _ ?_
    simp [hj]
  · rintro e w' ⟨rfl, hq⟩
    rw [halving hok hk]
    exact ⟨⟨_, rfl⟩, hq⟩
/-- The keys met so far. -/
def KeysIn (D : DataW Value) (left : Lit → Bool) (cnt : Nat) (ks : List ByteArray) (m : Nat) : Prop :=
  ks.Nodup ∧ ks.length + cnt ≤ m ∧ (∀ s, left (strL s) = (Maps.has D (strL s) && !metB ks s)) ∧ ∀ s ∈ ks, strOk s ∧ Maps.has D (strL s) = true
theorem KeysIn.start {D : DataW Value} {m : Nat} (h : Maps.size D = m) : KeysIn D (Maps.has D) (Maps.size D) [] m :=
  ⟨List.nodup_nil, by simp [h], fun s => by simp [metB], (fun s hs => by cases hs)⟩
theorem strL_key (s : ByteArray) : (strL s).sameKey (strL s) = true := WideAt.sameKey_self trivial
theorem KeysIn.step {D : DataW Value} {left : Lit → Bool} {cnt cnt' m : Nat} {ks : List ByteArray} {x : ByteArray} (h : KeysIn D left cnt ks m) (hl : left (strL x) = true) (hx : strOk x) (hc : cnt' < cnt) :
    KeysIn D (fun z => left z && !z.sameKey (strL x)) cnt' (ks ++ [x]) m := by
  obtain ⟨h1, h2, h3, h4⟩ := h
  have h5 := h3 x
  rw [hl] at h5
  have h6 : Maps.has D (strL x) = true ∧ metB ks x = false := by
    have h := (Bool.and_eq_true _ _).mp h5.symm
    exact ⟨h.1, by simpa using h.2⟩
  have hnx : x ∉ ks := fun hm => by rw [metB_iff.2 hm] at h6; cases h6.2
  refine ⟨List.nodup_append.2 ⟨h1, by simp, fun a ha b hb e => by simp at hb; subst hb; exact hnx (by rw [← e]; exact ha)⟩, by simp; omega, fun s => ?_, fun s hs => ?_⟩
  · show (left (strL s) && !(strL s).sameKey (strL x)) = _
    rw [h3 s]
    by_cases e : s = x
    · subst e
      rw [strL_key, metB_iff.2 (show s ∈ ks ++ [s] by simp)]
      simp
    · have h7 : (strL s).sameKey (strL x) = false := by
        cases hs : (strL s).sameKey (strL x)
        · rfl
        · have := WideAt.sameKey_eq hs
          unfold strL at this
          obtain ⟨⟨a⟩⟩ := s
          obtain ⟨⟨b⟩⟩ := x
          simp at this
          exact absurd (by rw [this]) e
      rw [h7]
      by_cases hm : s ∈ ks
      · rw [metB_iff.2 hm, metB_iff.2 (show s ∈ ks ++ [x] by simp [hm])]
        simp
      · rw [metB_not hm, metB_not (show s ∉ ks ++ [x] by simp [hm, e])]
        simp
  · rcases List.mem_append.1 hs with hs | hs
    · exact h4 s hs
    · simp only [List.mem_singleton] at hs
      subst hs
      exact ⟨hx, h6.1⟩
theorem KeysIn.all {D : DataW Value} {left : Lit → Bool} {cnt m : Nat} {ks : List ByteArray} (h : KeysIn D left cnt ks m) (hl : ∀ kl, left kl = false) (s : ByteArray) : Maps.has D (strL s) = true ↔ s ∈ ks := by
  constructor
  · intro hs
    have := h.2.2.1 s
    rw [hl, hs] at this
    rcases Classical.em (s ∈ ks) with hm | hm
    · exact hm
    · rw [metB_not hm] at this
      cases this
  · intro hs
    exact (h.2.2.2 s hs).2
/-- Where the tables so far stand. -/
def FoldPre (ls : List (List RowI)) (ks : List Nat) (p : Nat) : Prop := ks.length = p ∧ ∀ (i : Nat) (t : List RowI), i < p → ls[i]? = some t → ∃ k, ks[i]? = some k ∧ (poolL tl ls)[k]? = some t
set_option maxRecDepth 100000 in
set_option maxHeartbeats 32000000 in
theorem pfold_any (v : Value) (ps : List (Value × List RowI)) (w : World) (h : TabsP w w.heap.size v ps) (hok : ∀ x ∈ ps, RowsOk x.2) (hsz : ∀ x ∈ ps, x.2.length * 8 ≤ 140737488351232) (hlen : ps.length ≤ 1000000) :
    Calls Tryz.prog 65 #[v] w (FoldPost (ps.map Prod.snd) w) := by
  obtain ⟨A, c, rfl, hc, hm, hR, hRs⟩ := id h
  have hmm := @run_makeMap Tryz.prog
  obtain ⟨W1, hW1⟩ : ∃ W1, w.alloc (.map #[] 0) = W1 := ⟨_, rfl⟩
  have HB0 := Lib.hid (show Below w.heap.size w W1 from hW1 ▸ (Below.refl _ w).alloc (Nat.le_refl _) (.map #[] 0))
  have HS1 := Lib.hid (show W1.heap.size = w.heap.size + 1 by rw [← hW1]; simp)
  have HM0 := Lib.hid (show MapS W1 w.heap.size 0 0 (fun _ => none) from hW1 ▸ MapG.made w Tryz.prog 9 strL strOk)
  have HR := Lib.hid hR
  have HRS := Lib.hid hRs
  have HOK := Lib.hid (show ∀ t ∈ ps.map Prod.snd, RowsOk t from fun t ht => by obtain ⟨x, hx, rfl⟩ := List.mem_map.1 ht; exact hok x hx)
  have HSZ := Lib.hid (show ∀ t ∈ ps.map Prod.snd, t.length * 8 ≤ 140737488351232 from fun t ht => by obtain ⟨x, hx, rfl⟩ := List.mem_map.1 ht; exact hsz x hx)
  clear hR hRs hok hsz h
  unfold maxLen at hm
  generalize hls : ps.map Prod.snd = ls at *
  have HLS := Lib.hid hls
  have HLL := Lib.hid (show ls.length = ps.length by rw [← hls, List.length_map])
  clear hls
  generalize hn : ps.length = n at *
  have HN := Lib.hid hn
  have hn1 : (n : Int) ≤ 1000000 := by omega
  clear hn hc
  obtain ⟨i0, hi0, hz0, hz1, hz2⟩ := info_parts str_info
  obtain ⟨i1, hi1, hy0, hy1, hy2⟩ := info_parts tabInfo
  obtain ⟨i2, hi2, hx0, hx1, hx2⟩ := info_parts intInfo
  go_enter Tryz.func65, Tryz.ntmps65
  go_upto_region 2 with (fail)
  (try rw [hW1])
  clear hW1 hmm
  go_wp2
  go_loopw [21] (fun iv wr => ∃ (p m : Nat) (f : ByteArray → Option Value), iv = .int .i64 (p : Int) ∧ p ≤ n ∧ (∀ t ∈ ls.take p, RiseL kl t) ∧ MapS wr w.heap.size p m f ∧ FoldMap wr w.heap.size ls p f ∧ Only w.heap.size W1 wr) (fun iv _ => n - (Lib.intOf iv).toNat)
  case atStart => exact ⟨0, 0, _, rfl, Nat.zero_le _, fun t ht => by simp at ht, HM0.out, FoldMap.start _ _ _, Only.refl _ _⟩
  case round =>
    obtain ⟨p, m, f, rfl, hp, hT, hM, hF, hO⟩ := hrel
    have HT := Lib.hid hT
    have HM := Lib.hid hM
    have HF := Lib.hid hF
    have HON := Lib.hid hO
    have HBW := Lib.hid (show Below w.heap.size w wr from HB0.out.trans (hO.below (Nat.le_refl _) HB0.out.size))
    clear hT hM hF hO
    by_cases hlt : p < n
    · obtain ⟨⟨xv, xl⟩, hx⟩ := at_lt (l := ps) (p := p) (by have := HN.out; omega)
      have hq : (p : Int) < (n : Int) := by omega
      have hXR := HRS.out _ (List.mem_of_getElem? hx)
      obtain ⟨A3, c3, e3, -⟩ := id hXR
      simp only at e3
      subst e3
      have HXR := Lib.hid hXR
      obtain ⟨b1, o1, rfl, hb1, hcl1⟩ := (HR.out.below HBW.out).spot (by omega) (by omega)
      have r0 : wr.cell? ⟨b1, o1 + p, none⟩ = some (.slice A3 xl.length c3) := hcl1 _ _ (tab_cell hx)
      have HX := Lib.hid (show ls[p]? = some xl by rw [← HLS.out, List.getElem?_map, hx]; rfl)
      have HXO := Lib.hid (HOK.out xl (List.mem_of_getElem? HX.out))
      have HXZ := Lib.hid (HSZ.out xl (List.mem_of_getElem? HX.out))
      have HTS := Lib.hid (show (textB xl).size ≤ maxLen by have := HXZ.out; rw [textB_size]; simp only [maxLen]; omega)
      have HIS := Lib.hid (istable_any _ xl wr (HXR.out.on HBW.out))
      clear hcl1 hx hXR
      by_cases hr : RiseL kl xl
      · rw [decide_eq_true hr] at HIS
        have HRI := Lib.hid hr
        clear hr
        go_upto_region 7 with (go_at_call 85; go_loud (refine HIS.out.mono ?_; rintro e w1 ⟨v1, q, rfl, rfl, rfl⟩; have HB1 := Lib.hid (show Below wr.heap.size wr (wr.drewN q) from below_drewN (Below.refl _ _) q)))
        go_wp2_with (first
          | (go_at_call 86; go_loud (refine (ptext_any _ xl _ (HXR.out.on (HBW.out.trans (HB1.out.mono HBW.out.size))) HXO.out HXZ.out).mono ?_; rintro e w2 ⟨rfl, hb2⟩; have HB2 := Lib.hid (HB1.out.trans (hb2.mono HB1.out.size)); clear hb2))
          | (go_at_call 80; go_loud (refine (clone_any _ xl _ (HXR.out.on (HBW.out.trans (HB2.out.mono HBW.out.size))) HXZ.out).mono ?_; rintro e w3 ⟨⟨cv, rfl, ho3⟩, hb3⟩; have HB3 := Lib.hid (HB2.out.trans (hb3.mono HB2.out.size)); have HR3 := Lib.hid (show OwnRw w3 w.heap.size cv xl from own_base ho3 (HBW.out.trans (HB2.out.mono HBW.out.size)).size); have HM3 := Lib.hid (HM.out.on HB3.out); have HF3 := Lib.hid (HF.out.keep (fun v t hv => own_more hv HB3.out)); obtain ⟨w4, hrun, hM4, hg4⟩ := HM3.out.store law_str Tryz.underlying118 (by simp only [maxLen]; omega) strL_inj HTS.out (key_str HTS.out) cv; have HM4 := Lib.hid hM4; have HG4 := Lib.hid (show Only w.heap.size w3 w4 from hg4); clear ho3 hb3 hM4 hg4)))
        go_roundw
        case rel =>
          refine ⟨p + 1, _, _, by go_num, hlt, fun t ht => ?_, HM4.out, (HF3.out.keep (rows_map HM3.out HG4.out)).put HX.out (rows_map HM3.out HG4.out _ _ HR3.out), ?_⟩
          · rw [List.take_add_one, HX.out] at ht
            rcases List.mem_append.1 ht with ht | ht
            · exact HT.out t ht
            · simp only [Option.toList_some, List.mem_singleton] at ht
              rw [ht]
              exact HRI.out
          · exact (HON.out.trans (Only.of_below HB3.out)).trans HG4.out
        case measure => simp [Lib.intOf]; omega
      · rw [decide_eq_false hr] at HIS
        have HRI := Lib.hid hr
        clear hr
        go_wp2_with (go_at_call 85; go_loud (refine HIS.out.mono ?_; rintro e w1 ⟨v1, q, rfl, rfl, rfl⟩))
        go_ret3
        exact ⟨.inl ⟨fun hall => HRI.out (hall xl (List.mem_of_getElem? HX.out)), rfl⟩, below_drewN HBW.out _⟩
    · obtain rfl : p = n := by omega
      have hq : ¬ (p : Int) < (p : Int) := by omega
      have HALL := Lib.hid (show ∀ t ∈ ls, RiseL kl t from fun t ht => HT.out t (by rw [List.take_of_length_le (by have := HLL.out; omega)]; exact ht))
      obtain ⟨wa, hwa⟩ : ∃ wa, wa = wr := ⟨_, rfl⟩
      subst hwa
      obtain ⟨D, hown, hms, hhas, hat⟩ := HM.out
      have HOWN := Lib.hid hown
      have HMS := Lib.hid hms
      have HHAS := Lib.hid hhas
      have hml : m ≤ p := HM.out.le
      have HBA := Lib.hid HM.out.lt
      clear hown hms hhas hat
      go_wp2_with (at_range; go_loud (refine wpList_range_own _ rfl _ 118 rfl 9 50 law_str Tryz.underlying118 rawE w.heap.size p D rfl HOWN.out ?_; intro w5 hrg5 hg5 hs5; have HRG5 := Lib.hid hrg5; have HB5 := Lib.hid (show Below wa.heap.size wa w5 from (Below.refl _ wa).grown hg5 (Nat.le_refl _) (fun k hk => by cases hk)); clear hrg5 hg5 hs5))
      (try go_frame)
      go_loopw [8] (fun kv wx => ∃ (left : Lit → Bool) (cnt : Nat) (ks : List ByteArray), wx.ranges Tryz.prog 9 rawE w.heap.size wa.heap.size p D left cnt ∧ wx.ownsRow (wa.heap.size + 1) 9 1 kv ks.length (ks.map Value.string) ∧ KeysIn D left cnt ks m ∧ Below wa.heap.size wa wx) (fun _ wx => wx.rangeLeft w.heap.size wa.heap.size)
      case atStart => exact ⟨_, _, [], HRG5.out, World.ownsRow_nil _ _ _ _, KeysIn.start HMS.out, HB5.out⟩
      case round =>
        obtain ⟨left, cnt, ks, hrg, hok, hki, hbb⟩ := hrel
        obtain ⟨A1, c1, rfl, hc1, hm1, -⟩ := own_form hok
        have HRG := Lib.hid hrg
        have HO := Lib.hid hok
        have HKI := Lib.hid hki
        have HBB := Lib.hid hbb
        have hkl : (ks.length : Int) ≤ 1000000 := by have := hki.2.1; omega
        clear hrg hok hki hbb hc1 hm1
        go_wp2_with (at_next; go_loud (refine wpList_next_ranges _ rfl _ rfl 9 law_str rawE Value.string (fun c : Value => c) (fun key kl hk => by obtain ⟨x, h, -⟩ := keyOf_string_inv Tryz.underlying9 hk; exact ⟨x, h⟩) (fun v y _ => ⟨v, rfl⟩) w.heap.size wa.heap.size p D left cnt rfl HRG.out ?_ ?_))
        · intro hc0 hl0
          have HKS := Lib.hid (show sortT ks = (poolL tl ls).map textB from keys_all (by rw [HLL.out]; exact HF.out) HOK.out HSZ.out HKI.out.1 (fun s hs => by rw [← HHAS.out s hs]; exact HKI.out.all hl0 s) (fun s hs => (HKI.out.2.2.2 s hs).1))
          clear hc0 hl0
          have HKN := Lib.hid (show ks.length = (poolL tl ls).length by rw [← sortT_len ks, HKS.out, List.length_map])
          generalize hN : (poolL tl ls).length = N at *
          have HPN := Lib.hid hN
          clear hN
          rw [HKN.out] at hkl
          rw [HKN.out] at HO
          rw [HKN.out]
          have HS := Lib.hid (show Calls Tryz.prog 51 #[.slice A1 N c1] wr (fun en w' => en = .returned (.tuple #[]) ∧ w'.ownsRow (wa.heap.size + 1) 9 1 (.slice A1 N c1) N (((poolL tl ls).map textB).map Value.string) ∧ wr.grownBy w' (Value.slice A1 N c1).ownBlock) from by
            have h := sortS_any (.slice A1 N c1) ks wr (wa.heap.size + 1) 9 (by rw [HKN.out]; exact HO.out) (by have := HKN.out; omega)
            unfold SortPost at h
            rw [HKN.out, HKS.out] at h
            exact h)
          have hN1 : (N : Int) ≤ 1000000 := by omega
          go_upto_region 16 with (go_at_call 51; go_loud (refine HS.out.mono ?_; rintro en w7 ⟨rfl, ho7, hg7⟩; have HK7 := Lib.hid (Reads.of_own ho7); have HB7 := Lib.hid (HBB.out.grown hg7 HBB.out.size (fun k hk => by have := (HO.out.lt k hk).1; omega)); clear ho7 hg7))
          have HM7 := Lib.hid (HM.out.on HB7.out)
          have HF7 := Lib.hid (HF.out.keep (fun v t hv => own_more hv HB7.out))
          clear HS HRG
          go_wp2
          go_loopw [10, 48] (fun ov iv wx => ∃ (q : Nat) (qs : List (Value × List RowI)), iv = .int .i64 (q : Int) ∧ q ≤ N ∧ qs.map Prod.snd = (poolL tl ls).take q ∧ wx.ownsRow w7.heap.size 50 1 ov q (qs.map Prod.fst) ∧ (∀ x ∈ qs, OwnRw w7 w.heap.size x.1 x.2) ∧ Below w7.heap.size w7 wx) (fun _ iv _ => N - (Lib.intOf iv).toNat)
          case atStart => exact ⟨0, [], rfl, Nat.zero_le _, rfl, World.ownsRow_nil _ _ _ _, (fun x hx => by cases hx), Below.refl _ _⟩
          case round =>
            obtain ⟨q, qs, rfl, hq0, hqs, hO3, hR3, hB3⟩ := hrel
            have HQS := Lib.hid hqs
            have HO3 := Lib.hid hO3
            have HR3 := Lib.hid hR3
            have HB3 := Lib.hid hB3
            clear hqs hO3 hR3 hB3
            by_cases hlt3 : q < N
            · obtain ⟨t, ht⟩ := at_lt (l := poolL tl ls) (p := q) (by rw [HPN.out]; exact hlt3)
              have hq3 : (q : Int) < (N : Int) := by omega
              have hmem : t ∈ ls := (poolL_mem ls t).1 (List.mem_of_getElem? ht)
              obtain ⟨fv, hfv⟩ := Option.isSome_iff_exists.1 (HF7.out.2 t (by rw [List.take_of_length_le (by have := HLL.out; omega)]; exact hmem))
              obtain ⟨t', h1, h2, h3⟩ := HF7.out.1 _ _ hfv
              obtain rfl := textB_inj (HOK.out t hmem) (HOK.out t' (List.mem_of_mem_take h2)) h1
              obtain ⟨A5, c5, rfl, -, -, -⟩ := own_form h3
              have HTV := Lib.hid h3
              have HT := Lib.hid ht
              have hts : (textB t).size ≤ maxLen := by have := HSZ.out t hmem; rw [textB_size]; simp only [maxLen]; omega
              have hlk := (HM7.out.on HB3.out).look law_str Tryz.underlying118 (zero_rows wr) hts (key_str hts)
              rw [hfv] at hlk
              simp only [Option.getD_some] at hlk
              obtain ⟨b1, o1, rfl, hb1, hcl1⟩ := (HK7.out.below HB3.out).spot (by omega) (by omega)
              have r0 : wr.cell? ⟨b1, o1 + q, none⟩ = some (.string (textB t)) := hcl1 _ _ (by simp [ht])
              have HA := Lib.hid (And.intro (HO3.out.alloc (.cells #[Value.slice A5 t.length c5] 50)) (And.intro (reads_new wr #[Value.slice A5 t.length c5] 50 1 1 rfl) (show w7.heap.size ≤ (wr.alloc (.cells #[Value.slice A5 t.length c5] 50)).heap.size by have := HB3.out.size; simp; omega)))
              clear hcl1 ht h1 h2 h3 hfv hmem hts
              go_wp2_with (at_builtin; go_loud (refine wpList_append_any _ rfl (.tmp 52) (.tmp 56) _ rfl w7.heap.size 50 i1 _ 1 24 Tryz.underlying43 hi1 hy0 hy1 hy2 rfl (by omega) _ q (qs.map Prod.fst) rfl HA.out.1 (wr.heap.size + 1) (some ⟨wr.heap.size, 0, none⟩) 1 1 [Value.slice A5 t.length c5] rfl HA.out.2.1 (by simp [Value.oneCell']) (by simp only [maxLen]; omega) (by omega) HA.out.2.2 ?_; intro v3 w8 hown8 hg8 hat8; have HO8 := Lib.hid hown8; have HB8 := Lib.hid ((HB3.out.alloc HB3.out.size _).grown hg8 HA.out.2.2 (fun k hk => (HO3.out.lt k hk).1)); clear hown8 hg8 hat8))
              go_roundw
              case rel =>
                refine ⟨q + 1, qs ++ [(.slice A5 t.length c5, t)], by go_num, hlt3, ?_, by simpa using HO8.out, fun x hx => ?_, HB8.out⟩
                · rw [List.map_append, HQS.out, List.take_add_one, HT.out]
                  rfl
                · rcases List.mem_append.1 hx with hx | hx
                  · exact HR3.out x hx
                  · simp only [List.mem_singleton] at hx
                    subst hx
                    exact HTV.out
              case measure => simp [Lib.intOf]; omega
            · obtain rfl : q = N := by omega
              have hq3 : ¬ (q : Int) < (q : Int) := by omega
              obtain ⟨w8, hw8⟩ : ∃ w8, w8 = wr := ⟨_, rfl⟩
              subst hw8
              have HQL := Lib.hid (show qs.length = q by rw [← List.length_map (f := Prod.snd), HQS.out, List.length_take, HPN.out, Nat.min_self])
              have HQP := Lib.hid (show qs.map Prod.snd = poolL tl ls by rw [HQS.out, List.take_of_length_le (by rw [HPN.out]; exact Nat.le_refl _)])
              have HTB := Lib.hid (show OTabs w8 w.heap.size _ qs from ⟨own_base (by rw [HQL.out]; exact HO3.out) (HBW.out.trans (HB7.out.mono HBW.out.size)).size, fun x hx => own_more (HR3.out x hx) HB3.out⟩)
              have HBW8 := Lib.hid (show Below w.heap.size w w8 from HBW.out.trans ((HB7.out.trans (HB3.out.mono HB7.out.size)).mono HBW.out.size))
              have HK8 := Lib.hid ((HK7.out.below HB3.out).more HB3.out.size)
              go_wp2
              go_loopw [13, 61] (fun av iv wx => ∃ (j : Nat) (js : List Nat), iv = .int .i64 (j : Int) ∧ j ≤ p ∧ FoldPre ls js j ∧ wx.ownsRow w8.heap.size 3 1 av j (js.map fun k : Nat => Value.int .i64 (k : Int)) ∧ Below w8.heap.size w8 wx) (fun _ iv _ => p - (Lib.intOf iv).toNat)
              case atStart => exact ⟨0, [], rfl, Nat.zero_le _, ⟨rfl, fun i t hi => absurd hi (by omega)⟩, World.ownsRow_nil _ _ _ _, Below.refl _ _⟩
              case round =>
                obtain ⟨j, js, rfl, hj0, hjs, hO4, hB4⟩ := hrel
                have HJS := Lib.hid hjs
                have HO4 := Lib.hid hO4
                have HB4 := Lib.hid hB4
                clear hjs hO4 hB4
                by_cases hlt4 : j < p
                · obtain ⟨⟨xv, xl⟩, hx⟩ := at_lt (l := ps) (p := j) (by have := HN.out; omega)
                  have hq4 : (j : Int) < (p : Int) := by omega
                  have hXR := HRS.out _ (List.mem_of_getElem? hx)
                  obtain ⟨A3, c3, e3, -⟩ := id hXR
                  simp only at e3
                  subst e3
                  have HXR := Lib.hid hXR
                  have HBX := Lib.hid (HBW8.out.trans (HB4.out.mono HBW8.out.size))
                  obtain ⟨b1, o1, rfl, hb1, hcl1⟩ := (HR.out.below HBX.out).spot (by omega) (by omega)
                  have r0 : wr.cell? ⟨b1, o1 + j, none⟩ = some (.slice A3 xl.length c3) := hcl1 _ _ (tab_cell hx)
                  have HX := Lib.hid (show ls[j]? = some xl by rw [← HLS.out, List.getElem?_map, hx]; rfl)
                  have HXO := Lib.hid (HOK.out xl (List.mem_of_getElem? HX.out))
                  have HXZ := Lib.hid (HSZ.out xl (List.mem_of_getElem? HX.out))
                  obtain ⟨k, hk⟩ := pool_at (List.mem_of_getElem? HX.out)
                  have HKX := Lib.hid hk
                  clear hcl1 hx hXR hk
                  go_upto_region 26 with (first
                    | (go_at_call 86; go_loud (refine (ptext_any _ xl _ (HXR.out.on HBX.out) HXO.out HXZ.out).mono ?_; rintro e w9 ⟨rfl, hb9⟩; have HB9 := Lib.hid (HB4.out.trans (hb9.mono HB4.out.size)); have HO9 := Lib.hid (own_more HO4.out hb9); clear hb9))
                    | (go_at_call 87; go_loud (refine (bsearch_any A1 c1 q ls xl k _ HPN.out ((HK8.out.below HB9.out).more HB9.out.size) HOK.out HKX.out (by omega)).mono ?_; rintro e w10 ⟨⟨ob, rfl⟩, q10, rfl⟩)))
                  have HA := Lib.hid (fun q : Nat => And.intro ((show (w9.drewN q).ownsRow w8.heap.size 3 1 _ j (js.map fun k : Nat => Value.int .i64 (k : Int)) from HO9.out).alloc (.cells #[.int .i64 (k : Int)] 3)) (And.intro (reads_new (w9.drewN q) #[.int .i64 (k : Int)] 3 1 1 rfl) (show w8.heap.size ≤ ((w9.drewN q).alloc (.cells #[.int .i64 (k : Int)] 3)).heap.size by have := HB9.out.size; simp; omega)))
                  go_wp2_with (at_builtin; go_loud (refine wpList_append_any _ rfl (.tmp 72) (.tmp 74) _ rfl w8.heap.size 3 i2 _ 1 8 Tryz.underlying119 hi2 hx0 hx1 hx2 rfl (by omega) _ j (js.map fun k : Nat => Value.int .i64 (k : Int)) rfl (HA.out _).1 (w9.heap.size + 1) (some ⟨w9.heap.size, 0, none⟩) 1 1 [.int .i64 (k : Int)] rfl (HA.out _).2.1 (by simp [Value.oneCell']) (by simp only [maxLen]; omega) (by omega) (HA.out 0).2.2 ?_; intro v3 w11 hown11 hg11 hat11; have HO11 := Lib.hid hown11; have HB11 := Lib.hid (((below_drewN HB9.out _).alloc (below_drewN HB9.out _).size _).grown hg11 (HA.out 0).2.2 (fun k hk => (HO9.out.lt k hk).1)); clear hown11 hg11 hat11))
                  go_roundw
                  case rel => exact ⟨j + 1, js ++ [k], by go_num, hlt4, fold_snoc HJS.out HX.out HKX.out, by simpa using HO11.out, HB11.out⟩
                  case measure => simp [Lib.intOf]; omega
                · obtain rfl : j = p := by omega
                  have hq4 : ¬ (j : Int) < (j : Int) := by omega
                  have HJL := Lib.hid HJS.out.1
                  have HIN := Lib.hid (own_base (base' := w.heap.size) HO4.out HBW8.out.size)
                  have HFA := Lib.hid (show FoldAt ls js from ⟨by rw [HJL.out, HLL.out], fun i t ht => HJS.out.2 i t (by have := (List.getElem?_eq_some_iff.1 ht).1; have := HLL.out; omega) ht⟩)
                  go_wp2
                  go_ret3
                  exact ⟨.inr ⟨HALL.out, _, _, qs, js, rfl, HQP.out, ⟨own_more HTB.out.1 HB4.out, fun x hx => own_more (HTB.out.2 x hx) HB4.out⟩, (by rw [HJL.out]; exact HIN.out), HFA.out⟩, HBW8.out.trans (HB4.out.mono HBW8.out.size)⟩
        · intro x cv kl ya yb w6 cnt6 hkey hlk hRv hat6 hrg6 hlt6 hg6 hs6 hen6
          obtain ⟨x', ex, rfl, hxs⟩ := keyOf_string_inv Tryz.underlying9 hkey
          cases ex
          have HRG6 := Lib.hid hrg6
          have HKI6 := Lib.hid (HKI.out.step hlk hxs hlt6)
          have HLT6 := Lib.hid hlt6
          have HO6 := Lib.hid (HO.out.kept hg6 (.inr (fun e => by have := (HO.out.lt _ e).1; omega)))
          have HB6 := Lib.hid (HBB.out.grown hg6 HBB.out.size (fun k hk => by cases hk; exact Nat.le_refl _))
          have HKC := Lib.hid HKI.out.2.1
          clear hkey hlk hRv hat6 hrg6 hlt6 hg6 hs6 hxs
          have HA := Lib.hid (And.intro (HO6.out.alloc (.cells #[.string x] 9)) (And.intro (reads_new w6 #[.string x] 9 1 1 rfl) (show wa.heap.size + 1 ≤ (w6.alloc (.cells #[.string x] 9)).heap.size by have := HB6.out.size; simp; omega)))
          go_wp2_with (at_builtin; go_loud (refine wpList_append_any _ rfl (.tmp 40) (.tmp 42) _ rfl (wa.heap.size + 1) 9 i0 _ 1 16 Tryz.underlying40 hi0 hz0 hz1 hz2 rfl (by omega) _ ks.length (ks.map Value.string) rfl HA.out.1 (w6.heap.size + 1) (some ⟨w6.heap.size, 0, none⟩) 1 1 [.string x] rfl HA.out.2.1 (by simp [Value.oneCell']) (by simp only [maxLen]; omega) (by omega) HA.out.2.2 ?_; intro v3 w8 hown8 hg8 hat8; have HO8 := Lib.hid hown8; have HRG8 := Lib.hid ((HRG6.out.alloc (.cells #[.string x] 9)).kept hg8 (fun e => by have := (HA.out.1.lt _ e.symm).1; have := HBA.out; omega) (fun e => by have := (HA.out.1.lt _ e.symm).1; omega)); have HB8 := Lib.hid ((HB6.out.alloc HB6.out.size (.cells #[.string x] 9)).grown hg8 (by have := HA.out.2.2; omega) (fun k hk => by have := (HA.out.1.lt k hk).1; omega)); clear hown8 hg8 hat8))
          go_roundw
          case rel => exact ⟨_, cnt6, ks ++ [x], HRG8.out, by simpa using HO8.out, HKI6.out, HB8.out⟩
          case measure => rw [HRG8.out.left_eq, HRG.out.left_eq]; exact HLT6.out
theorem pfold_no {v : Value} {ls : List (List RowI)} {w : World} (h : Calls Tryz.prog 65 #[v] w (FoldPost ls w)) (hn : ¬ ∀ t ∈ ls, RiseL kl t) :
    Calls Tryz.prog 65 #[v] w fun e w' => e = .returned (.tuple #[.slice none 0 0, .slice none 0 0, .int .i64 2]) ∧ Below w.heap.size w w' :=
  h.mono fun _ _ ⟨hc, hb⟩ => ⟨hc.elim (fun h => h.2) (fun h => absurd h.1 hn), hb⟩
/-- .. what comes back is the call's own. -/
theorem pfold_own {v : Value} {ls : List (List RowI)} {w : World} (h : Calls Tryz.prog 65 #[v] w (FoldPost ls w)) (hn : ∀ t ∈ ls, RiseL kl t) :
    Calls Tryz.prog 65 #[v] w fun e w' => (∃ v av ps ks, e = .returned (.tuple #[v, av, .int .i64 0]) ∧ ps.map Prod.snd = poolL tl ls ∧ OTabs w' w.heap.size v ps ∧ w'.ownsRow w.heap.size 3 1 av ks.length (ks.map fun k : Nat => Value.int .i64 (k : Int)) ∧ FoldAt ls ks) ∧ Below w.heap.size w w' :=
  h.mono fun _ _ ⟨hc, hb⟩ => ⟨hc.elim (fun h => absurd hn h.1) (fun h => h.2), hb⟩
theorem pfold_ok {v : Value} {ls : List (List RowI)} {w : World} (h : Calls Tryz.prog 65 #[v] w (FoldPost ls w)) (hn : ∀ t ∈ ls, RiseL kl t) :
    Calls Tryz.prog 65 #[v] w fun e w' => (∃ v av ps ks, e = .returned (.tuple #[v, av, .int .i64 0]) ∧ ps.map Prod.snd = poolL tl ls ∧ TabsP w' w'.heap.size v ps ∧ IntsR w' w'.heap.size av ks ∧ FoldAt ls ks) ∧ Below w.heap.size w w' :=
  h.mono fun _ _ ⟨hc, hb⟩ => ⟨hc.elim (fun h => absurd hn h.1) (fun ⟨_, v, av, ps, ks, e, h1, h2, h3, h4⟩ => ⟨v, av, ps, ks, e, h1, h2.tabs, ints_of_own h3, h4⟩), hb⟩
end Go.Proofs.YtfpepdjffehbcaaGreat
