/-
  The law OctetBursts answers true for every slice of bytes, every place and every turn, and leaves the bytes as they were. No condition.
-/
import Derived.Test.YtfkkfkfngdpgbaaRows
import Derived.Test.YtfkkfkfngdpgbaaOctWakes
import Derived.Test.YtfkkfkfngdpgbaaOctBurst
import Derived.BigRegion
import Derived.WalkKit
import Derived.Outline
import Derived.ProofKit
import Derived.OpenShut
import Derived.ShutString
import Derived.ChangeOld
import Derived.Below
import Derived.Deep.CondSized
namespace Go.Proofs.Ytfkkfkfngdpgbaa.octetBursts
open Go.ChangeShapes Go.WideShapes Go.ChangeAt Go.RowKit
open Go.ChangeMaps (open_string shut_string)
set_option linter.unusedVariables false

theorem own : ownKnob Try.prog.godebug = none := by kernel_rfl
theorem laidOut : laidOutB Try.prog = true := by kernel_rfl

/-- What the walk is told of a slice of integers that came in: it is nil, or it leads to a row of 'cap' cells. -/
def IsRow (k : IntKind) (w : World) (a : Option Addr) (len cap : Nat) (zs : List Int) : Prop :=
  (a = none ∧ len = 0 ∧ cap = 0 ∧ zs = []) ∨
  ∃ x, a = some x ∧ len ≤ cap ∧ cap ≤ maxLen ∧ zs.length = cap ∧ (∀ i, i < zs.length → w.cell? (x.add i) = some (.int k (zs.getD i 0))) ∧ ∀ n ∈ zs, (Lit.int k n).wf = true
theorem bulk_lits {H : Type} (k : IntKind) : ∀ zs : List Int, Rows.uptoBulkAll (lits (H := H) k zs) = zs.length
  | [] => rfl
  | n :: zs => by
    have := bulk_lits (H := H) k zs
    simp only [lits] at this
    simp only [lits, List.map_cons, Rows.uptoBulkAll, Rows.uptoBulk, List.length_cons, this]
    omega
theorem bulk_row {H : Type} (k : IntKind) (zs : List Int) (len : Nat) {cap : Nat} (hl : len ≤ cap) (hz : zs.length = cap) : Rows.uptoBulk (.slice (lits (H := H) k (zs.take len)) (lits k (zs.drop len))) = cap + 1 := by
  simp only [Rows.uptoBulk, bulk_lits, List.length_take, List.length_drop, hz]
  omega

set_option maxHeartbeats 4000000 in
theorem walk (a0 : Option Addr) (len0 cap0 : Nat) (z0 : List Int) (a1 : Int) (a2 : Int) (w : World) (w0 : IsRow .u8 w a0 len0 cap0 z0) (hcap0 : cap0 * 1 ≤ 140737488351232) (w1 : (Lit.int .i64 a1).wf = true) (w2 : (Lit.int .u32 a2).wf = true) :
    Calls Try.prog 4 #[.slice a0 len0 cap0, .int .i64 a1, .int .u32 a2] w fun e w' => e = .returned (.bool true) ∧ Below w.heap.size w w' := by
  obtain ⟨l, rfl, hr, hlc, hm, hc⟩ := rb_of_row w0
  have hy := bounds_u32 w2
  have ha := bounds_i64 w1
  obtain ⟨x, rfl⟩ := Int.eq_ofNat_of_zero_le hy.1
  have hl : l.length ≤ 140737488351232 := by omega
  obtain ⟨i0, hi0, hi1, hi2, hi3⟩ := info_parts byte_info
  clear hcap0 hc hlc w0 w1 w2
  have hxx : x < 4294967296 := by omega
  have hcl := crc_lt l
  have HSelf := Lib.hid (crc_self l)
  go_enter Try.func4, Try.ntmps4
  go_wp2_with (go_at_call 11; refine (wakes_any _).mono ?_; rintro e wa ⟨rfl, hba⟩)
  go_wp2_with fail
  have hz := hba.size
  refine (crc_any l a0 cap0 w.heap.size wa (hr.below hba) hm).mono ?_
  rintro e wa' ⟨rfl, rfl⟩
  go_wp2_with fail
  refine (put32_any l (crc l) a0 cap0 w.heap.size wa (hr.below hba) hz (by omega) hcl).mono ?_
  rintro e wb ⟨v1, rfl, ho1, hbb⟩
  obtain ⟨A1, c1, rfl, hlc1, hcm1, hr1⟩ := ho1.form
  have hz1 := hbb.size
  have hbw : Below w.heap.size w wb := hba.trans (below_mono hbb hz)
  have hlen1 : (l ++ le 4 (crc l)).length ≤ 140737488355328 := by rw [List.length_append, le_len]; omega
  have HC := Lib.hid (crc_any _ _ c1 _ _ hr1 (by simp only [maxLen]; omega))
  rw [HSelf.out] at HC
  clear hlc1
  generalize l ++ le 4 (crc l) = L1 at *
  go_wp2_with fail
  refine HC.out.mono ?_
  rintro e wb' ⟨rfl, rfl⟩
  by_cases hl4 : l.length < 4
  · go_wp2_with fail
    go_ret
    exact ⟨rfl, hbw⟩
  · have hzb := hbw.size
    have hrb := hr.below hbw
    go_wp2_with (at_builtin; refine wpList_append_any _ rfl (.tmp 20) (.tmp 21) _ rfl w.heap.size 5 i0 _ 1 1 Try.underlying22 hi0 hi1 hi2 hi3 rfl (by omega) (.slice (some ⟨wb.heap.size, 0, none⟩) 0 0) 0 [] rfl (World.ownsRow_made _ _ 0 hzb (by simp [maxLen]) rfl) w.heap.size a0 l.length cap0 (bvs l) rfl (Reads.alloc hrb hzb _) (bvs_one l) (by simp only [maxLen]; omega) (by omega) (by simp; omega) ?_; intro v1 w1 hown1 hg1 hat1)
    · have hown : OB w1 w.heap.size 5 v1 l := by unfold OB; simpa using hown1
      have hb1 : Below w.heap.size w w1 := (hbw.alloc hzb _).grown hg1 (by simp; omega) (fun k hk => by simp [Value.ownBlock] at hk; omega)
      clear hown1 hg1 hat1
      obtain ⟨g, cap, hv, hgb, hgl⟩ := World.ownsRow.form hown (by omega)
      subst hv
      have hl63 : l.length ≤ 9223372036854775807 := by omega
      go_loopw [8, 29] (fun _ i wr => ∃ k : Nat, k ≤ 4 ∧ i = .int .i64 k ∧ OB wr w.heap.size 5 (.slice (some ⟨g, 0, none⟩) l.length cap) (burst l (0) x k) ∧ Below w.heap.size w wr) (fun _ i _ => 4 - (intOf i).toNat)
      case atStart => exact ⟨0, by omega, rfl, hown, hb1⟩
      case round =>
        clear hown hb1 hgl
        obtain ⟨k, hk, rfl, ho, hb⟩ := hrel
        have hlenb := burst_len l (0) x k
        by_cases hlt : k < 4
        · obtain ⟨hcell, hfr⟩ := ob_at (i := k) ho (by omega)
          have hbl := ((burst l 0 x k).getD k 0).toNat_lt
          have hb0 : (burst l 0 x k).getD (0 + k) 0 = (burst l 0 x k).getD k 0 := by rw [Nat.zero_add]
          have HB0 := Lib.hid hb0
          clear hb0
          generalize (burst l 0 x k).getD k 0 = by0 at *
          have h8 : (0 : Int) ≤ 8 * (k : Int) := by omega
          have h32 : 8 * (k : Int) < 32 := by omega
          have q0 : (0 : Int) ≤ (k : Int) := by omega
          have q1 : ((k : Int) : Int) < (l.length : Int) := by omega
          go_wp2
          go_region
          all_goals go_wp2
          go_roundw
          case rel => exact ⟨k + 1, by omega, by go_num, ob_burst ho HB0.out hlt ((Nat.zero_add k).symm), ((hb.setCell (p := ⟨g, _, none⟩) hgb _).drew)⟩
          case measure => simp [intOf]; omega
        · obtain rfl : k = 4 := by omega
          have HS := Lib.hid (same_crc l 0 x (by omega) hxx)
          have hcl4 := crc_lt (burst l 0 x 4)
          obtain ⟨A7, c7, hv7, hlc7, hcm7, hr7⟩ := ho.form
          injection hv7 with hA7 hn7 hc7
          clear hn7
          subst hA7; subst hc7
          have HC7 := Lib.hid (crc_any (burst l 0 x 4) _ cap wr.heap.size wr hr7 (by simp only [maxLen]; omega))
          rw [hlenb] at HC7
          clear hlenb
          generalize crc (burst l 0 x 4) = q at *
          go_wp2_with fail
          refine HC7.out.mono ?_
          rintro e wr' ⟨rfl, rfl⟩
          go_wp2_with fail
          refine (crc_any l a0 cap0 w.heap.size wr (hr.below hb) hm).mono ?_
          rintro e wr' ⟨rfl, rfl⟩
          go_wp2_with fail
          go_ret
          exact ⟨ret_bool HS.out, hb⟩
    · have hown : OB w1 w.heap.size 5 v1 l := by unfold OB; simpa using hown1
      have hb1 : Below w.heap.size w w1 := (hbw.alloc hzb _).grown hg1 (by simp; omega) (fun k hk => by simp [Value.ownBlock] at hk; omega)
      clear hown1 hg1 hat1
      obtain ⟨g, cap, hv, hgb, hgl⟩ := World.ownsRow.form hown (by omega)
      subst hv
      have hl63 : l.length ≤ 9223372036854775807 := by omega
      have hat : a1 % ((l.length : Int) - 3) = ((a1 % ((l.length : Int) - 3)).toNat : Int) := by rw [Int.toNat_of_nonneg (Int.emod_nonneg _ (by omega))]
      have hat4 : (a1 % ((l.length : Int) - 3)).toNat + 4 ≤ l.length := by have := Int.emod_lt_of_pos a1 (show (0 : Int) < (l.length : Int) - 3 by omega); omega
      rw [hat]
      clear hat
      generalize (a1 % ((l.length : Int) - 3)).toNat = at_ at *
      go_loopw [8, 29] (fun _ i wr => ∃ k : Nat, k ≤ 4 ∧ i = .int .i64 k ∧ OB wr w.heap.size 5 (.slice (some ⟨g, 0, none⟩) l.length cap) (burst l (at_) x k) ∧ Below w.heap.size w wr) (fun _ i _ => 4 - (intOf i).toNat)
      case atStart => exact ⟨0, by omega, rfl, hown, hb1⟩
      case round =>
        clear hown hb1 hgl
        obtain ⟨k, hk, rfl, ho, hb⟩ := hrel
        have hlenb := burst_len l (at_) x k
        by_cases hlt : k < 4
        · obtain ⟨hcell, hfr⟩ := ob_at (i := at_ + k) ho (by omega)
          have hbl := ((burst l at_ x k).getD (at_ + k) 0).toNat_lt
          have hb0 : (burst l at_ x k).getD (at_ + k) 0 = (burst l at_ x k).getD (at_ + k) 0 := rfl
          generalize hby : (burst l at_ x k).getD (at_ + k) 0 = by0 at *
          have HB0 := Lib.hid hby
          clear hby hb0
          have h8 : (0 : Int) ≤ 8 * (k : Int) := by omega
          have h32 : 8 * (k : Int) < 32 := by omega
          have q0 : (0 : Int) ≤ (at_ : Int) + (k : Int) := by omega
          have q1 : ((at_ : Int) + (k : Int) : Int) < (l.length : Int) := by omega
          go_wp2
          go_region
          all_goals go_wp2
          go_roundw
          case rel => exact ⟨k + 1, by omega, by go_num, ob_burst ho HB0.out hlt (rfl), ((hb.setCell (p := ⟨g, _, none⟩) hgb _).drew)⟩
          case measure => simp [intOf]; omega
        · obtain rfl : k = 4 := by omega
          have HS := Lib.hid (same_crc l at_ x (by omega) hxx)
          have hcl4 := crc_lt (burst l at_ x 4)
          obtain ⟨A7, c7, hv7, hlc7, hcm7, hr7⟩ := ho.form
          injection hv7 with hA7 hn7 hc7
          clear hn7
          subst hA7; subst hc7
          have HC7 := Lib.hid (crc_any (burst l at_ x 4) _ cap wr.heap.size wr hr7 (by simp only [maxLen]; omega))
          rw [hlenb] at HC7
          clear hlenb
          generalize crc (burst l at_ x 4) = q at *
          go_wp2_with fail
          refine HC7.out.mono ?_
          rintro e wr' ⟨rfl, rfl⟩
          go_wp2_with fail
          refine (crc_any l a0 cap0 w.heap.size wr (hr.below hb) hm).mono ?_
          rintro e wr' ⟨rfl, rfl⟩
          go_wp2_with fail
          go_ret
          exact ⟨ret_bool HS.out, hb⟩

set_option maxRecDepth 100000 in
theorem contract (H : Type) (enc : TypeId × Value → H) (W : World) (base : Nat) (args : Array Value) (ds gs : List (DataW H)) (before : List MemPlace)
    (hval0 : ∀ (j : Nat) t v, Try.f4.params[j]? = some t → args[j]? = some v → Value.okWide Try.prog W .any base t v)
    (hW : DataW.Whole enc Try.prog Try.f4.params.toList Rows.octetBurstsSpec.vars false W args.toList ds gs before)
    (hsz0 : (DataW.weightsEach Try.prog (Try.f4.params.toList ++ Rows.octetBurstsSpec.plain.varTypes Try.prog) (ds ++ gs)).all (· ≤ reachBytes) = true) :
    Calls Try.prog 4 args W fun e W' => ∃ v, e = .returned v ∧ Rows.octetBurstsSpec.post enc Try.prog Try.f4 false true false false W args v W' := by
  have hval : ∀ (j : Nat) t v, Try.f4.params[j]? = some t → args[j]? = some v → Value.okWide Try.prog W .any base t v := hval0
  have hsz : (DataW.weightsEach Try.prog (Try.f4.params.toList ++ Rows.octetBurstsSpec.plain.varTypes Try.prog) (ds ++ gs)).all (· ≤ reachBytes) = true := hsz0
  have hW' := hW
  obtain ⟨p, q, hA0, hV, rfl, hfz, hnd⟩ := hW
  have hA : DataW.TrodAll enc Try.prog W 0 (fun _ => true) true Try.f4.params.toList args.toList ds p := hA0
  rw [Try.params4] at hA hval hsz
  obtain ⟨v0, vs0, d0, ds0, p0, q0, hargs, rfl, rfl, h0, r0⟩ := trodAll_cons hA
  obtain ⟨v1, vs1, d1, ds1, p1, q1, rfl, rfl, rfl, h1, r1⟩ := trodAll_cons r0
  obtain ⟨v2, vs2, d2, ds2, p2, q2, rfl, rfl, rfl, h2, r2⟩ := trodAll_cons r1
  obtain ⟨rfl, rfl, rfl⟩ := trodAll_nil r2
  obtain rfl : args = #[v0, v1, v2] := by cases args; simp_all
  obtain ⟨rfl, rfl⟩ := trodVars_none hV
  obtain ⟨a0, len0, cap0, rfl⟩ := okWide_slice Try.underlying22 (hval 0 22 v0 rfl rfl)
  have k0 := h0
  have lt0 : ∀ x ∈ p0, x.block < W.heap.size := by obtain ⟨m, hm⟩ := k0; exact DataW.trod_lt m _ _ _ hm
  obtain ⟨z0, w0, hcap0, hbk0⟩ : ∃ zs, IsRow .u8 W a0 len0 cap0 zs ∧ cap0 * 1 ≤ 140737488351232 ∧ Rows.uptoBulk d0 = cap0 + 1 := by
    obtain ⟨fuel, hf⟩ := h0
    rcases open_ints Try.underlying22 Try.underlying5 (by kernel_rfl) hf with ⟨hcs, hx⟩ | ⟨x, l, c, zs, hcs, _, hl, hm, hz, hx, hcell, hwz⟩
    · simp [Value.cells] at hcs
      obtain ⟨rfl, rfl, rfl⟩ := hcs
      simp only [Prod.mk.injEq] at hx
      exact ⟨[], .inl ⟨rfl, rfl, rfl, rfl⟩, by omega, by rw [hx.1]; simp [Rows.uptoBulk]⟩
    · simp [Value.cells] at hcs
      obtain ⟨rfl, rfl, rfl⟩ := hcs
      simp only [Prod.mk.injEq] at hx
      obtain ⟨hd, _⟩ := hx
      have hz' : zs.length = cap0 := by simpa using hz
      refine ⟨zs, .inr ⟨_, rfl, hl, hm, hz', hcell, hwz⟩, ?_, by rw [hd]; exact bulk_row _ _ _ hl hz'⟩
      have hb := sized_slice hsz (j := 0) (t := 22) (e := 5) rfl (by rw [← hd]; rfl) Try.underlying22
      rw [show Try.prog.bytesOf 5 = 1 from by kernel_rfl] at hb
      simp only [lits, List.length_map, List.length_take, List.length_drop, reachBytes, hz'] at hb
      rw [Nat.min_eq_left hl] at hb
      rw [show len0 + (cap0 - len0) = cap0 from by omega] at hb
      simpa using hb
  obtain ⟨a1, rfl, rfl, rfl, w1⟩ := open_int Try.underlying3 (hval 1 3 v1 rfl rfl) h1
  obtain ⟨a2, rfl, rfl, rfl, w2⟩ := open_int Try.underlying23 (hval 2 23 v2 rfl rfl) h2
  clear hA0 hval0
  refine (walk a0 len0 cap0 z0 a1 a2 W w0 hcap0 w1 w2).mono fun e W' ⟨he, bel⟩ => ?_
  subst he
  exact ⟨_, rfl, _, _, _, [], _, [], hW', trodAll_mk1 (shut_bool Try.underlying4 _), (trodAll_cons_mk (Below.trod laidOut (by kernel_rfl) (of_decide_eq_true (by kernel_rfl)) k0 bel lt0) (trodAll_cons_mk (shut_int Try.underlying3 w1) (trodAll_cons_mk (shut_int Try.underlying23 w2) trodAll_mk0))), rfl, bel.frame _, fun h => by cases h⟩

set_option maxRecDepth 100000 in
theorem lifted (os : Os) (started : os.Started) (H : Type) (enc : TypeId × Value → H) :
    ReturnsInHanded {} Try.checked os 4 .any (Rows.octetBurstsSpec.pre6 enc Try.prog Try.f4 Rows.octetBurstsRow.domain false) (Rows.octetBurstsSpec.post enc Try.prog Try.f4 false true false false) := by
  refine returnsInHanded_of_change_sized (C := Try.checked) own started (by kernel_rfl) Try.func4
    (ChangeSpec.witness6 (enc := enc) (C := Try.checked) false ⟨#[], #[.slice none 0 0, .int .i64 0, .int .u32 0], []⟩ 8 (by kernel_rfl) (by kernel_rfl) (by kernel_rfl) (by kernel_rfl)) ?_
  intro W base args ds gs before hval hW _ hsz _
  exact contract H enc W base args ds gs before hval hW hsz

theorem over : Rows.octetBurstsRow.holds Try.pinned (OpenSpec.ofChange Rows.octetBurstsSpec) :=
  OpenClaim.holds_of_wide 4 Try.f4 rfl rfl rfl rfl rfl rfl rfl ⟨rfl, rfl, rfl, rfl, rfl⟩ rfl rfl rfl rfl rfl (by kernel_rfl) Try.func4 (by kernel_rfl)
    (of_decide_eq_true (by kernel_rfl)) (by unfold Func.isWrapper; first | (rw [if_pos (by decide +kernel)]; kernel_rfl) | (rw [if_neg (by decide +kernel)]; exact ⟨rfl, rfl⟩))
    (fun os started H enc _ => lifted os started H enc)

/-- The statement. -/
theorem proved : Rows.OctetBurstsSaid := over
#print axioms proved
end Go.Proofs.Ytfkkfkfngdpgbaa.octetBursts
