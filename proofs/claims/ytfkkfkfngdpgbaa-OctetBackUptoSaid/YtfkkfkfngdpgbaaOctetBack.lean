/-
  The law OctetBack answers true for all slices of numbers whose bulk is within the bound, and leaves them as they were. Condition: the bulk of the arguments is at most the bound of the second form.
-/
import Derived.Test.YtfkkfkfngdpgbaaRows
import Derived.Test.YtfkkfkfngdpgbaaOctBack
import Derived.WalkKit
import Derived.Outline
import Derived.ProofKit
import Derived.OpenShut
import Derived.ShutString
import Derived.ChangeOld
import Derived.Below
import Derived.Deep.CondSized
namespace Go.Proofs.Ytfkkfkfngdpgbaa.octetBack
open Go.ChangeShapes Go.WideShapes Go.ChangeAt Go.RowKit
open Go.ChangeMaps (open_string shut_string)
set_option linter.unusedVariables false

theorem own : ownKnob Try.prog.godebug = none := by kernel_rfl
theorem laidOut : laidOutB Try.prog = true := by kernel_rfl

/-- What the walk is told of a slice of integers that came in: it is nil, or it leads to a row of 'cap' cells. -/
def IsRow (k : IntKind) (w : World) (a : Option Addr) (len cap : Nat) (zs : List Int) : Prop :=
  (a = none ∧ len = 0 ∧ cap = 0 ∧ zs = []) ∨
  ∃ x, a = some x ∧ len ≤ cap ∧ cap ≤ maxLen ∧ zs.length = cap ∧ (∀ i, i < zs.length → w.cell? (x.add i) = some (.int k (zs.getD i 0))) ∧ ∀ n ∈ zs, (Lit.int k n).wf = true
theorem bulk_lits {H : Type} (k : IntKind) : ∀ zs : List Int, Rows.uptoBulkAll (lits (H := H) k zs) = zs.length
  | [] => rfl
  | n :: zs => by
    have := bulk_lits (H := H) k zs
    simp only [lits] at this
    simp only [lits, List.map_cons, Rows.uptoBulkAll, Rows.uptoBulk, List.length_cons, this]
    omega
theorem bulk_row {H : Type} (k : IntKind) (zs : List Int) (len : Nat) {cap : Nat} (hl : len ≤ cap) (hz : zs.length = cap) : Rows.uptoBulk (.slice (lits (H := H) k (zs.take len)) (lits k (zs.drop len))) = cap + 1 := by
  simp only [Rows.uptoBulk, bulk_lits, List.length_take, List.length_drop, hz]
  omega

set_option maxHeartbeats 4000000 in
theorem walk (a0 : Option Addr) (len0 cap0 : Nat) (z0 : List Int) (a1 : Option Addr) (len1 cap1 : Nat) (z1 : List Int) (w : World) (w0 : IsRow .u16 w a0 len0 cap0 z0) (hcap0 : cap0 * 2 ≤ 140737488351232) (w1 : IsRow .u32 w a1 len1 cap1 z1) (hcap1 : cap1 * 4 ≤ 140737488351232) (hbulk : (cap0 + 1) + (cap1 + 1) ≤ 1048576) :
    Calls Try.prog 6 #[.slice a0 len0 cap0, .slice a1 len1 cap1] w fun e w' => e = .returned (.bool true) ∧ Below w.heap.size w w' := by
  obtain ⟨ss, rfl, hr1, hc1, hm1, hs⟩ := nums_of_row 65536 (fun n h => by have := bounds_u16 h; omega) w0
  obtain ⟨gs, rfl, hr2, hc2, hm2, hg⟩ := nums_of_row 4294967296 (fun n h => by have := bounds_u32 h; omega) w1
  have hlim : 2 * ss.length + 4 * gs.length ≤ 4194304 := by omega
  unfold maxLen at hm1 hm2
  clear w0 w1 hcap0 hcap1 hbulk hc1 hc2
  go_enter Try.func6, Try.ntmps6
  go_wp2_with (go_at_call 11; refine (wakes_any _).mono ?_; rintro e wa ⟨rfl, hba⟩)
  go_loopw [5, 7, 19] (fun v _ i wr => ∃ k : Nat, k ≤ ss.length ∧ i = .int .i64 k ∧ OB wr w.heap.size 5 v (enc 2 (ss.take k)) ∧ Below w.heap.size w wr) (fun _ _ i _ => ss.length - (intOf i).toNat)
  case atStart => exact ⟨0, Nat.zero_le _, rfl, by simp only [List.take_zero, enc, List.flatMap_nil]; exact World.ownsRow_nil _ _ _ _, hba⟩
  case round =>
    obtain ⟨k, hk, rfl, ho, hb⟩ := hrel
    obtain ⟨A, c, rfl, hlc, hcm, hrb⟩ := ho.form
    have hz := hb.size
    by_cases hlt : k < ss.length
    · obtain ⟨b, off, rfl, hbB, hc⟩ := nums_at (hr1.below hb) hlt
      have hx := getD_lt hs hlt
      have hlen : (enc 2 (ss.take k)).length ≤ 4194304 := by rw [enc_len, List.length_take]; omega
      have HS := Lib.hid (enc_snoc 2 ss hlt)
      generalize ss.getD k 0 = x at *
      generalize enc 2 (ss.take k) = l at *
      go_wp2_with (go_at_call 14; refine (put16_any l x A c wr.heap.size wr hrb (Nat.le_refl _) (by omega) hx).mono ?_; rintro e w2 ⟨v2, rfl, ho2, hb2⟩)
      go_roundw
      case rel => exact ⟨k + 1, by omega, by go_num, by rw [HS.out]; exact ho2.base hz, hb.trans (below_mono hb2 hz)⟩
      case measure => simp [intOf]; omega
    · obtain rfl : k = ss.length := by omega
      have hp : enc 2 (ss.take ss.length) = enc 2 ss := by rw [List.take_length]
      have hpl : (enc 2 (ss.take ss.length)).length = 2 * ss.length := by rw [hp, enc_len]
      generalize enc 2 (ss.take ss.length) = p at *
      have HP := Lib.hid hp
      have HPL := Lib.hid hpl
      have hpb : p.length ≤ 2 * ss.length := by omega
      clear hp hpl hk hlt
      obtain ⟨wo, rfl⟩ : ∃ wo : World, wo = wr := ⟨_, rfl⟩
      go_wp2
      go_loopw [5, 9, 29] (fun v _ i wr => ∃ k : Nat, k ≤ gs.length ∧ i = .int .i64 k ∧ OB wr w.heap.size 5 v (p ++ enc 4 (gs.take k)) ∧ Below w.heap.size w wr) (fun _ _ i _ => gs.length - (intOf i).toNat)
      case atStart => exact ⟨0, Nat.zero_le _, rfl, by simp only [List.take_zero, enc, List.flatMap_nil, List.append_nil]; exact ho, hb⟩
      case round =>
        clear ho hb hlc hrb hcm hz
        obtain ⟨k, hk, rfl, ho, hb⟩ := hrel
        obtain ⟨A, c, rfl, hlc, hcm, hrb⟩ := ho.form
        have hz := hb.size
        by_cases hlt : k < gs.length
        · obtain ⟨b, off, rfl, hbB, hc⟩ := nums_at (hr2.below hb) hlt
          have hx := getD_lt hg hlt
          have hlen : (p ++ enc 4 (gs.take k)).length ≤ 4194304 := by rw [List.length_append, enc_len, List.length_take]; omega
          have hsn : p ++ enc 4 (gs.take (k + 1)) = (p ++ enc 4 (gs.take k)) ++ le 4 (gs.getD k 0) := by rw [enc_snoc 4 gs hlt, List.append_assoc]
          have HS := Lib.hid hsn
          clear hsn
          generalize gs.getD k 0 = x at *
          generalize p ++ enc 4 (gs.take k) = l at *
          go_wp2_with (go_at_call 12; refine (put32_any l x A c wr.heap.size wr hrb (Nat.le_refl _) (by omega) hx).mono ?_; rintro e w2 ⟨v2, rfl, ho2, hb2⟩)
          go_roundw
          case rel => exact ⟨k + 1, by omega, by go_num, by rw [HS.out]; exact ho2.base hz, hb.trans (below_mono hb2 hz)⟩
          case measure => simp [intOf]; omega
        · obtain rfl : k = gs.length := by omega
          have hL : p ++ enc 4 (gs.take gs.length) = [] ++ (enc 2 ss ++ (enc 4 gs)) := by rw [List.take_length, HP.out, List.nil_append]
          have hL2 : p ++ enc 4 (gs.take gs.length) = enc 2 ss ++ (enc 4 gs ++ []) := by rw [List.take_length, HP.out, List.append_nil]
          have hll : (p ++ enc 4 (gs.take gs.length)).length = 2 * ss.length + 4 * gs.length := by rw [hL, List.nil_append, List.length_append, enc_len, enc_len]
          generalize p ++ enc 4 (gs.take gs.length) = L at *
          have hLb : L.length ≤ 4194304 := by omega
          have HL := Lib.hid hL
          have HL2 := Lib.hid hL2
          have HLL := Lib.hid hll
          clear hL hL2 hll hk hlt
          obtain ⟨wo2, rfl⟩ : ∃ wo2 : World, wo2 = wr := ⟨_, rfl⟩
          go_wp2_with (go_at_call 16; refine (read_any L A c wo2.heap.size wo2 hrb (Nat.le_refl _) (by omega)).mono ?_; rintro e w3 ⟨g, A', c', rfl, hR, hgz, hb3⟩)
          have hb4 : Below w.heap.size w w3 := hb.trans (below_mono hb3 hz)
          have hg1 : w.heap.size ≤ g := by omega
          clear hb hb3 hrb ho hz hgz
          go_loopw [12, 43] (fun _ i wr => ∃ k : Nat, k ≤ ss.length ∧ i = .int .i64 k ∧ Rd wr g A' c' L (2 * k) 0 ∧ Below w.heap.size w wr) (fun _ i _ => ss.length - (intOf i).toNat)
          case atStart => exact ⟨0, Nat.zero_le _, rfl, hR, hb4⟩
          case round =>
            clear hR hb4
            obtain ⟨k, hk, rfl, hR, hb⟩ := hrel
            by_cases hlt : k < ss.length
            · obtain ⟨b, off, rfl, hbB, hc⟩ := nums_at (hr1.below hb) hlt
              have HC := Lib.hid (u16_at g c' A' [] ss _ L HL.out k (2 * k) (by simp) hlt hs wr hR)
              generalize ss.getD k 0 = x at *
              go_wp2_with (go_at_call 17; refine HC.out.mono ?_; rintro e w4 ⟨rfl, hR4, hO4⟩)
              go_roundw
              case rel => exact ⟨k + 1, by omega, by go_num, by simpa using hR4, hb.trans (hO4.below hg1 hb.size)⟩
              case measure => simp [intOf]; omega
            · obtain rfl : k = ss.length := by omega
              clear hk hlt
              obtain ⟨wo3, rfl⟩ : ∃ wo3 : World, wo3 = wr := ⟨_, rfl⟩
              go_wp2
              go_loopw [14, 54] (fun _ i wr => ∃ k : Nat, k ≤ gs.length ∧ i = .int .i64 k ∧ Rd wr g A' c' L (2 * ss.length + 4 * k) 0 ∧ Below w.heap.size w wr) (fun _ i _ => gs.length - (intOf i).toNat)
              case atStart => exact ⟨0, Nat.zero_le _, rfl, by simpa using hR, hb⟩
              case round =>
                clear hR hb
                obtain ⟨k, hk, rfl, hR, hb⟩ := hrel
                by_cases hlt : k < gs.length
                · obtain ⟨b, off, rfl, hbB, hc⟩ := nums_at (hr2.below hb) hlt
                  have HC := Lib.hid (u32_at g c' A' (enc 2 ss) gs [] L HL2.out k (2 * ss.length + 4 * k) (by rw [enc_len]) hlt hg wr hR)
                  generalize gs.getD k 0 = x at *
                  go_wp2_with (go_at_call 18; refine HC.out.mono ?_; rintro e w4 ⟨rfl, hR4, hO4⟩)
                  go_roundw
                  case rel => exact ⟨k + 1, by omega, by go_num, by rw [enc_len] at hR4; exact hR4, hb.trans (hO4.below hg1 hb.size)⟩
                  case measure => simp [intOf]; omega
                · obtain rfl : k = gs.length := by omega
                  clear hk hlt
                  go_wp2_with fail
                  refine (left_any g c' A' L _ 0 wr hR).mono ?_
                  rintro e w5 ⟨rfl, k5, rfl⟩
                  rw [show ((L.length : Int) - ((2 * ss.length + 4 * gs.length : Nat) : Int)) = 0 by have := HLL.out; omega]
                  have hq : ((L.length : Int) == 2 * (ss.length : Int) + 4 * (gs.length : Int)) = true := by rw [HLL.out]; simp
                  go_wp2_with fail
                  refine (err_any g c' A' L _ 0 _ (hR.drewN k5)).mono ?_
                  rintro e w6 ⟨rfl, rfl⟩
                  go_wp2_with fail
                  go_ret
                  exact ⟨rfl, below_drewN hb k5⟩

set_option maxRecDepth 100000 in
theorem contract (H : Type) (enc : TypeId × Value → H) (W : World) (base : Nat) (args : Array Value) (ds gs : List (DataW H)) (before : List MemPlace)
    (hval0 : ∀ (j : Nat) t v, Try.f6.params[j]? = some t → args[j]? = some v → Value.okWide Try.prog W .any base t v)
    (hW : DataW.Whole enc Try.prog Try.f6.params.toList Rows.octetBackSpec.vars false W args.toList ds gs before)
    (hsz0 : (DataW.weightsEach Try.prog (Try.f6.params.toList ++ Rows.octetBackSpec.plain.varTypes Try.prog) (ds ++ gs)).all (· ≤ reachBytes) = true) (hk : Rows.uptoSmall H (ds ++ gs) = true) :
    Calls Try.prog 6 args W fun e W' => ∃ v, e = .returned v ∧ Rows.octetBackSpec.post enc Try.prog Try.f6 false true false false W args v W' := by
  have hval : ∀ (j : Nat) t v, Try.f6.params[j]? = some t → args[j]? = some v → Value.okWide Try.prog W .any base t v := hval0
  have hsz : (DataW.weightsEach Try.prog (Try.f6.params.toList ++ Rows.octetBackSpec.plain.varTypes Try.prog) (ds ++ gs)).all (· ≤ reachBytes) = true := hsz0
  have hW' := hW
  obtain ⟨p, q, hA0, hV, rfl, hfz, hnd⟩ := hW
  have hA : DataW.TrodAll enc Try.prog W 0 (fun _ => true) true Try.f6.params.toList args.toList ds p := hA0
  rw [Try.params6] at hA hval hsz
  obtain ⟨v0, vs0, d0, ds0, p0, q0, hargs, rfl, rfl, h0, r0⟩ := trodAll_cons hA
  obtain ⟨v1, vs1, d1, ds1, p1, q1, rfl, rfl, rfl, h1, r1⟩ := trodAll_cons r0
  obtain ⟨rfl, rfl, rfl⟩ := trodAll_nil r1
  obtain rfl : args = #[v0, v1] := by cases args; simp_all
  obtain ⟨rfl, rfl⟩ := trodVars_none hV
  obtain ⟨a0, len0, cap0, rfl⟩ := okWide_slice Try.underlying34 (hval 0 34 v0 rfl rfl)
  have k0 := h0
  have lt0 : ∀ x ∈ p0, x.block < W.heap.size := by obtain ⟨m, hm⟩ := k0; exact DataW.trod_lt m _ _ _ hm
  obtain ⟨z0, w0, hcap0, hbk0⟩ : ∃ zs, IsRow .u16 W a0 len0 cap0 zs ∧ cap0 * 2 ≤ 140737488351232 ∧ Rows.uptoBulk d0 = cap0 + 1 := by
    obtain ⟨fuel, hf⟩ := h0
    rcases open_ints Try.underlying34 Try.underlying29 (by kernel_rfl) hf with ⟨hcs, hx⟩ | ⟨x, l, c, zs, hcs, _, hl, hm, hz, hx, hcell, hwz⟩
    · simp [Value.cells] at hcs
      obtain ⟨rfl, rfl, rfl⟩ := hcs
      simp only [Prod.mk.injEq] at hx
      exact ⟨[], .inl ⟨rfl, rfl, rfl, rfl⟩, by omega, by rw [hx.1]; simp [Rows.uptoBulk]⟩
    · simp [Value.cells] at hcs
      obtain ⟨rfl, rfl, rfl⟩ := hcs
      simp only [Prod.mk.injEq] at hx
      obtain ⟨hd, _⟩ := hx
      have hz' : zs.length = cap0 := by simpa using hz
      refine ⟨zs, .inr ⟨_, rfl, hl, hm, hz', hcell, hwz⟩, ?_, by rw [hd]; exact bulk_row _ _ _ hl hz'⟩
      have hb := sized_slice hsz (j := 0) (t := 34) (e := 29) rfl (by rw [← hd]; rfl) Try.underlying34
      rw [show Try.prog.bytesOf 29 = 2 from by kernel_rfl] at hb
      simp only [lits, List.length_map, List.length_take, List.length_drop, reachBytes, hz'] at hb
      rw [Nat.min_eq_left hl] at hb
      rw [show len0 + (cap0 - len0) = cap0 from by omega] at hb
      simpa using hb
  obtain ⟨a1, len1, cap1, rfl⟩ := okWide_slice Try.underlying35 (hval 1 35 v1 rfl rfl)
  have k1 := h1
  have lt1 : ∀ x ∈ p1, x.block < W.heap.size := by obtain ⟨m, hm⟩ := k1; exact DataW.trod_lt m _ _ _ hm
  obtain ⟨z1, w1, hcap1, hbk1⟩ : ∃ zs, IsRow .u32 W a1 len1 cap1 zs ∧ cap1 * 4 ≤ 140737488351232 ∧ Rows.uptoBulk d1 = cap1 + 1 := by
    obtain ⟨fuel, hf⟩ := h1
    rcases open_ints Try.underlying35 Try.underlying23 (by kernel_rfl) hf with ⟨hcs, hx⟩ | ⟨x, l, c, zs, hcs, _, hl, hm, hz, hx, hcell, hwz⟩
    · simp [Value.cells] at hcs
      obtain ⟨rfl, rfl, rfl⟩ := hcs
      simp only [Prod.mk.injEq] at hx
      exact ⟨[], .inl ⟨rfl, rfl, rfl, rfl⟩, by omega, by rw [hx.1]; simp [Rows.uptoBulk]⟩
    · simp [Value.cells] at hcs
      obtain ⟨rfl, rfl, rfl⟩ := hcs
      simp only [Prod.mk.injEq] at hx
      obtain ⟨hd, _⟩ := hx
      have hz' : zs.length = cap1 := by simpa using hz
      refine ⟨zs, .inr ⟨_, rfl, hl, hm, hz', hcell, hwz⟩, ?_, by rw [hd]; exact bulk_row _ _ _ hl hz'⟩
      have hb := sized_slice hsz (j := 1) (t := 35) (e := 23) rfl (by rw [← hd]; rfl) Try.underlying35
      rw [show Try.prog.bytesOf 23 = 4 from by kernel_rfl] at hb
      simp only [lits, List.length_map, List.length_take, List.length_drop, reachBytes, hz'] at hb
      rw [Nat.min_eq_left hl] at hb
      rw [show len1 + (cap1 - len1) = cap1 from by omega] at hb
      simpa using hb
  have hbulk : (cap0 + 1) + (cap1 + 1) ≤ 1048576 := by
    have hb := of_decide_eq_true hk
    simp only [List.append_nil, Rows.uptoBulkAll] at hb
    rw [hbk0] at hb
    rw [hbk1] at hb
    try simp only [Rows.uptoBulk, Array.length_toList, ByteArray.size_data] at hb
    omega
  clear hA0 hval0
  refine (walk a0 len0 cap0 z0 a1 len1 cap1 z1 W w0 hcap0 w1 hcap1 hbulk).mono fun e W' ⟨he, bel⟩ => ?_
  subst he
  exact ⟨_, rfl, _, _, _, [], _, [], hW', trodAll_mk1 (shut_bool Try.underlying4 _), (trodAll_cons_mk (Below.trod laidOut (by kernel_rfl) (of_decide_eq_true (by kernel_rfl)) k0 bel lt0) (trodAll_cons_mk (Below.trod laidOut (by kernel_rfl) (of_decide_eq_true (by kernel_rfl)) k1 bel lt1) trodAll_mk0)), rfl, bel.frame _, fun h => by cases h⟩

set_option maxRecDepth 100000 in
theorem lifted (os : Os) (started : os.Started) (H : Type) (enc : TypeId × Value → H) (F : Stop.Interp) :
    ReturnsInHanded {} Try.checked os 6 .any ((Rows.OpenSpec.upto Rows.octetBackSpec).pre6 enc Try.prog Try.f6 Rows.octetBackUptoRow.domain false) (((Rows.OpenSpec.upto Rows.octetBackSpec).at F).post enc Try.prog Try.f6 false true false false) := by
  refine returnsInHanded_of_cond_sized (C := Try.checked) (s := Rows.OpenSpec.upto Rows.octetBackSpec) (k := Rows.uptoSmall) rfl own started (by kernel_rfl) Try.func6
    (OpenSpec.witness (enc := enc) (C := Try.checked) (s := Rows.OpenSpec.upto Rows.octetBackSpec) (k := Rows.uptoSmall) rfl false ⟨#[], #[.slice none 0 0, .slice none 0 0], []⟩ 8 (by kernel_rfl) (by kernel_rfl) (by kernel_rfl)
      (x := ([.nil, .nil], [], [])) (by kernel_rfl) rfl (by kernel_rfl)) ?_
  intro W base args ds gs before hval hW _ hk hsz _
  exact contract H enc W base args ds gs before hval hW hsz hk

theorem over : Rows.octetBackUptoRow.holds Try.pinned (Rows.OpenSpec.upto Rows.octetBackSpec) :=
  OpenClaim.holds_of_cond 6 Try.f6 rfl rfl rfl rfl rfl rfl rfl ⟨rfl, rfl, rfl, rfl, rfl⟩ rfl rfl rfl rfl rfl (by kernel_rfl) Try.func6 (by kernel_rfl)
    (of_decide_eq_true (by kernel_rfl)) (by unfold Func.isWrapper; first | (rw [if_pos (by decide +kernel)]; kernel_rfl) | (rw [if_neg (by decide +kernel)]; exact ⟨rfl, rfl⟩))
    (fun os started H enc _ F => lifted os started H enc F)

/-- The statement. -/
theorem proved : Rows.OctetBackUptoSaid := over
#print axioms proved
end Go.Proofs.Ytfkkfkfngdpgbaa.octetBack
