/-
  The law OctetReads answers true for every slice of bytes and every row of asks, and leaves both as they were. No condition.
-/
import Derived.Test.YtfkkfkfngdpgbaaRows
import Derived.Test.YtfkkfkfngdpgbaaOctWakes
import Derived.Test.YtfkkfkfngdpgbaaOctAsk
import Derived.Deep.DeepCutAuto
import Derived.Deep.CutBlock
import Derived.Test.YtfkkfkfngdpgbaaStructs
import Derived.Test.YtfkkfkfngdpgbaaConv
import Derived.Test.YtfkkfkfngdpgbaaRegion
import Derived.WalkKit
import Derived.Outline
import Derived.ProofKit
import Derived.OpenShut
import Derived.ShutString
import Derived.ChangeOld
import Derived.Below
import Derived.Deep.CondSized
namespace Go.Proofs.Ytfkkfkfngdpgbaa.octetReads
open Go.ChangeShapes Go.WideShapes Go.ChangeAt Go.RowKit
open Go.ChangeMaps (open_string shut_string)
set_option linter.unusedVariables false

theorem own : ownKnob Try.prog.godebug = none := by kernel_rfl
theorem laidOut : laidOutB Try.prog = true := by kernel_rfl

/-- What the walk is told of a slice of integers that came in: it is nil, or it leads to a row of 'cap' cells. -/
def IsRow (k : IntKind) (w : World) (a : Option Addr) (len cap : Nat) (zs : List Int) : Prop :=
  (a = none ∧ len = 0 ∧ cap = 0 ∧ zs = []) ∨
  ∃ x, a = some x ∧ len ≤ cap ∧ cap ≤ maxLen ∧ zs.length = cap ∧ (∀ i, i < zs.length → w.cell? (x.add i) = some (.int k (zs.getD i 0))) ∧ ∀ n ∈ zs, (Lit.int k n).wf = true
theorem bulk_lits {H : Type} (k : IntKind) : ∀ zs : List Int, Rows.uptoBulkAll (lits (H := H) k zs) = zs.length
  | [] => rfl
  | n :: zs => by
    have := bulk_lits (H := H) k zs
    simp only [lits] at this
    simp only [lits, List.map_cons, Rows.uptoBulkAll, Rows.uptoBulk, List.length_cons, this]
    omega
theorem bulk_row {H : Type} (k : IntKind) (zs : List Int) (len : Nat) {cap : Nat} (hl : len ≤ cap) (hz : zs.length = cap) : Rows.uptoBulk (.slice (lits (H := H) k (zs.take len)) (lits k (zs.drop len))) = cap + 1 := by
  simp only [Rows.uptoBulk, bulk_lits, List.length_take, List.length_drop, hz]
  omega

set_option maxRecDepth 100000 in
set_option maxHeartbeats 8000000 in
theorem walk (a0 : Option Addr) (len0 cap0 : Nat) (z0 : List Int) {H : Type} {enc : TypeId × Value → H} (v1 : Value) (d1 : DataW H) (p1 : List MemPlace) (base1 : Nat) (w : World) (w0 : IsRow .u8 w a0 len0 cap0 z0) (hcap0 : cap0 * 1 ≤ 140737488351232) (hv1 : Value.okWide Try.prog w .any base1 44 v1) (w1 : DataW.Trod enc Try.prog w 0 (fun _ => true) true 44 v1 d1 p1) (hwt1 : ∀ n ∈ d1.weights Try.prog 44, n ≤ 140737488351232) :
    Calls Try.prog 7 #[.slice a0 len0 cap0, v1] w fun e w' => e = .returned (.bool true) ∧ Below w.heap.size w w' := by
  obtain ⟨l, rfl, hr, hlc, hm, hc⟩ := rb_of_row w0
  obtain ⟨A1, c1, ps, rfl, hpc, hcm, hrp, hwf⟩ := pairs_of_trod (e := 48) Try.underlying44 Try.underlying48 (by kernel_rfl) (by kernel_rfl) Try.underlying3 Try.underlying3 hv1 w1
  have hl : l.length ≤ 140737488351232 := by omega
  have hps : ps.length ≤ 9223372036854775807 := by unfold maxLen at hcm; omega
  clear hcap0 hc hlc w0 hv1 w1 hwt1
  go_enter Try.func7, Try.ntmps7
  go_wp2_with (go_at_call 11; refine (wakes_any _).mono ?_; rintro e wa ⟨rfl, hba⟩)
  go_wp2_with fail
  have hz := hba.size
  refine (read_any l a0 cap0 w.heap.size wa (hr.below hba) hz (by omega)).mono ?_
  rintro e wb ⟨g, Ag, cg, rfl, hRg, hgz, hbb⟩
  have hz1 := hbb.size
  go_wp2_with fail
  refine (read_any l a0 cap0 w.heap.size wb ((hr.below hba).below (below_mono hbb hz)) (by omega) (by omega)).mono ?_
  rintro e wv ⟨q, Aq, cq, rfl, hRq, hqz, hbc⟩
  have hz2 := hbc.size
  have hgl := hRg.blk.lt
  replace hRg := after_own hRg hbc
  have hgq : g < q := by omega
  go_wp2_with fail
  refine (both_any l [] a0 none cap0 0 w.heap.size wv (((hr.below hba).below (below_mono hbb hz)).below (below_mono hbc (by omega))) Reads.none_ (by omega) (by simp; omega)).mono ?_
  rintro e wd ⟨v7, rfl, ho7, hbd⟩
  rw [List.append_nil] at ho7
  obtain ⟨Am, cm, rfl, hlcm, hcmm, hrm⟩ := ho7.form
  have hz3 := hbd.size
  have hql := hRq.blk.lt
  have hob7 := World.ownsRow.lt ho7
  replace hRg := after_own hRg hbd
  replace hRq := after_own hRq hbd
  have hqlt := hRq.blk.lt
  have hglt := hRg.blk.lt
  have hbw : Below w.heap.size w wd := ((hba.trans (below_mono hbb hz)).trans (below_mono hbc (by omega))).trans (below_mono hbd (by omega))
  clear hba hbb hbc hbd
  go_wp2_with fail
  go_loopw [30] (fun i wr => ∃ (k at_ : Nat) (err : Int), k ≤ ps.length ∧ i = .int .i64 k ∧ Rd wr g Ag cg l at_ err ∧ Blk wr q 62 #[.slice Aq l.length cq, .int .i64 0, .int .i64 0] ∧ Blk wr wd.heap.size 46 #[.slice Am l.length cm, .int .i64 (at_ : Int), .int .i64 err] ∧ OB wr wv.heap.size 5 (.slice Am l.length cm) l ∧ Below w.heap.size w wr)
    (fun i _ => ps.length - (intOf i).toNat)
  case atStart => exact ⟨0, 0, 0, Nat.zero_le _, rfl, ⟨hRg.blk.alloc _, Reads.alloc hRg.rb (by omega) _, hRg.lc, hRg.cm, hRg.le⟩, hRq.blk.alloc _, Blk.new _ _ _, ho7.alloc _, hbw.alloc (by omega) _⟩
  case round =>
    clear hRg hRq ho7 hbw hrm
    obtain ⟨k, at_, err, hk, rfl, hRg, hBq, hBm, hom, hb⟩ := hrel
    by_cases hlt : k < ps.length
    · obtain ⟨b, off, hbo, hbB, hcs⟩ := (hrp.below hb).spot (by omega) (by omega)
      subst hbo
      have hget := pvs_get .i64 .i64 ps k hlt
      have hca := hcs _ _ hget.1
      have hcb := hcs _ _ hget.2
      have hwk := hwf (ps.getD k (0, 0)) (by rw [List.getD_eq_getElem?_getD, List.getElem?_eq_getElem hlt]; exact List.getElem_mem hlt)
      generalize ps.getD k (0, 0) = pk at *
      obtain ⟨kd, n⟩ := pk
      simp only at hca hcb hwk
      clear hcs hget
      rw [← Nat.add_assoc] at hcb
      have hkd := bounds_i64 hwk.1
      have hnd := bounds_i64 hwk.2
      have ht1 : -3 ≤ kd.tmod 4 := by have := Int.lt_tmod_of_pos kd (show (0 : Int) < 4 by omega); omega
      have ht2 : kd.tmod 4 ≤ 3 := by have := Int.tmod_lt_of_pos kd (show (0 : Int) < 4 by omega); omega
      have m0 : wr.cell? ⟨wd.heap.size, 0, none⟩ = some (.slice Am l.length cm) := hBm.cell 0
      have m1 : wr.cell? ⟨wd.heap.size, 1, none⟩ = some (.int .i64 (at_ : Int)) := hBm.cell 1
      have m2 : wr.cell? ⟨wd.heap.size, 2, none⟩ = some (.int .i64 err) := hBm.cell 2
      have hwm := hBm.lt
      go_wp2_with fail
      have hk0 : 0 ≤ kd.tmod 4 % 4 := Int.emod_nonneg _ (by omega)
      have hk3 : kd.tmod 4 % 4 ≤ 3 := by have := Int.emod_lt_of_pos (kd.tmod 4) (show (0 : Int) < 4 by omega); omega
      have hkk : (kd.tmod 4 + 4) % 4 = kd.tmod 4 % 4 := by omega
      try rw [hkk]
      clear hkk ht1 ht2
      generalize kd.tmod 4 % 4 = kk at *
      obtain ⟨_, _, hvm, _, _, hrbm⟩ := hom.form
      injection hvm with hvm1 hvm2 hvm3
      subst hvm1; subst hvm3
      clear hvm2
      refine (do_any l Am cm at_ wr.heap.size err kk n _ (Reads.alloc hrbm (Nat.le_refl _) _) (by simp) hRg.le hlcm (by omega) hk0 hk3).mono ?_
      have HM := Lib.hid (rfl : doM l at_ err kk n = doM l at_ err kk n)
      generalize hmm : doM l at_ err kk n = m at HM ⊢
      clear HM
      have HM := Lib.hid hmm
      clear hmm
      rintro e w2 ⟨A2, c2, rfl, hrb2, hA2, hb2⟩
      obtain ⟨x, bl, te, at2, er2⟩ := m
      unfold rv tv
      dsimp only at hrb2 ⊢
      have hRg2 : Rd w2 g Ag cg l at_ err := after_own (after_own hRg ((Below.refl _ _).alloc (Nat.le_refl _) _)) hb2
      have hBq2 : Blk w2 q 62 #[.slice Aq l.length cq, .int .i64 0, .int .i64 0] := (hBq.alloc _).below hb2 (by have := hBq.lt; simp; omega)
      have hBm2 : Blk w2 wd.heap.size 46 #[.slice Am l.length cm, .int .i64 (at_ : Int), .int .i64 err] := (hBm.alloc _).below hb2 (by simp; omega)
      have hom2 : OB w2 wv.heap.size 5 (.slice Am l.length cm) l := OB.more (hom.alloc _) hb2
      have hb3 : Below w.heap.size w w2 := hb.trans (below_mono ((Below.refl _ _).alloc (Nat.le_refl _) _) hb.size |>.trans (below_mono hb2 (by have := hb.size; simp; omega)))
      have hask : Blk w2 wr.heap.size 48 #[.int .i64 kk, .int .i64 n] := (Blk.new wr _ _).below hb2 (by simp)
      have hsz2 : wr.heap.size < w2.heap.size := hask.lt
      have hsz2a : wr.heap.size < w2.heap.size + 1 := by omega
      have hsz2b : wr.heap.size < w2.heap.size + 1 + 1 := by omega
      have a0' : w2.cell? ⟨wr.heap.size, 0, none⟩ = some (.int .i64 kk) := hask.cell 0
      have a1' : w2.cell? ⟨wr.heap.size, 1, none⟩ = some (.int .i64 n) := hask.cell 1
      have hg2 := hRg2.blk.lt
      clear hRg hBq hBm hom hb hb2 hrbm
      go_upto_block 2 with (fail)
      have W3 := Lib.hid (rfl : ((w2.alloc (.cells #[.slice Am l.length cm, .int .i64 (at2 : Int), .int .i64 er2] 46)).alloc (.cells #[.int .u32 (x : Int), .slice A2 bl.length c2, .int .i64 te] 50)).alloc (.cells #[.int .u32 0, .slice none 0 0, .int .i64 0] 50) = ((w2.alloc (.cells #[.slice Am l.length cm, .int .i64 (at2 : Int), .int .i64 er2] 46)).alloc (.cells #[.int .u32 (x : Int), .slice A2 bl.length c2, .int .i64 te] 50)).alloc (.cells #[.int .u32 0, .slice none 0 0, .int .i64 0] 50))
      have hB12 := Blk.new (((w2.alloc (.cells #[.slice Am l.length cm, .int .i64 (at2 : Int), .int .i64 er2] 46)).alloc (.cells #[.int .u32 (x : Int), .slice A2 bl.length c2, .int .i64 te] 50))) 50 #[.int .u32 0, .slice none 0 0, .int .i64 0]
      have hB11 := (Blk.new (w2.alloc (.cells #[.slice Am l.length cm, .int .i64 (at2 : Int), .int .i64 er2] 46)) 50 #[.int .u32 (x : Int), .slice A2 bl.length c2, .int .i64 te]).alloc (.cells #[.int .u32 0, .slice none 0 0, .int .i64 0] 50)
      have hB10 := ((Blk.new w2 46 #[.slice Am l.length cm, .int .i64 (at2 : Int), .int .i64 er2]).alloc (.cells #[.int .u32 (x : Int), .slice A2 bl.length c2, .int .i64 te] 50)).alloc (.cells #[.int .u32 0, .slice none 0 0, .int .i64 0] 50)
      have hb23 := (((Below.refl w2.heap.size w2).alloc (Nat.le_refl _) (.cells #[.slice Am l.length cm, .int .i64 (at2 : Int), .int .i64 er2] 46)).alloc (by simp) (.cells #[.int .u32 (x : Int), .slice A2 bl.length c2, .int .i64 te] 50)).alloc (by simp; omega) (.cells #[.int .u32 0, .slice none 0 0, .int .i64 0] 50)
      simp only [World.size_alloc] at hB12 hB11
      clear W3
      generalize ((w2.alloc (.cells #[.slice Am l.length cm, .int .i64 (at2 : Int), .int .i64 er2] 46)).alloc (.cells #[.int .u32 (x : Int), .slice A2 bl.length c2, .int .i64 te] 50)).alloc (.cells #[.int .u32 0, .slice none 0 0, .int .i64 0] 50) = w3 at *
      have hb3w : Below w.heap.size w w3 := hb3.trans (below_mono hb23 hb3.size)
      have hRg3 := after_own hRg2 hb23
      have hBq3 := hBq2.below hb23 (by have := hBq2.lt; omega)
      have hBm3 := hBm2.below hb23 (by have := hBm2.lt; omega)
      have hom3 := OB.more hom2 hb23
      have hrb3 : RB w3 w3.heap.size A2 bl := (hrb2.below hb23).more hb23.size
      have h12 := hB12.lt
      have hob := World.ownsRow.lt hom2
      have e1 : w3.cell? ⟨wr.heap.size, 1, none⟩ = some (.int .i64 n) := (hask.below hb23 hsz2).cell 1
      clear hask
      clear hRg2 hBq2 hBm2 hom2 hrb2 hb3
      clear a0' a1' hsz2a hsz2b
      have hgh : g < w2.heap.size + 1 + 1 := by omega
      go_cut [] (fun wx => Asked w3 g (w2.heap.size + 1 + 1) Ag cg l (x, bl, te, at2, er2) wx)
      case first =>
        have h4 : kk = 0 ∨ kk = 1 ∨ kk = 2 ∨ kk = 3 := by omega
        rcases h4 with rfl | rfl | rfl | rfl
        · have hm0 := HM.out
          unfold doM at hm0
          rw [if_neg (by omega), if_neg (by omega), if_pos rfl] at hm0
          have HM0 := Lib.hid hm0.symm
          have hlt16 : num (takeM l at_ err 2).1 < 65536 := num_lt_take l at_ 2 err
          have HC := Lib.hid (u16_any g cg Ag l at_ err w3 hRg3)
          clear hm0 hk0 hk3
          generalize takeM l at_ err 2 = t at *
          go_wp2_with (go_at_call 17; refine HC.out.mono ?_; rintro e w4 ⟨rfl, hR4, hO4⟩; have c4 : w4.cell? ⟨w2.heap.size + 1 + 1, 0, none⟩ = some (.int .u32 0) := (hB12.grown hO4 (by simp; omega)).cell 0; have f4 := (hB12.grown hO4 (by simp; omega)).frozen 0)
          go_meet
          rw [HM0.out]
          exact asked_num hR4 hO4 hB12 hgh
        · have hm0 := HM.out
          unfold doM at hm0
          rw [if_neg (by omega), if_neg (by omega), if_neg (by omega)] at hm0
          have HM0 := Lib.hid hm0.symm
          have hlt16 : num (takeM l at_ err 4).1 < 4294967296 := num_lt_take l at_ 4 err
          have HC := Lib.hid (u32_any g cg Ag l at_ err w3 hRg3)
          clear hm0 hk0 hk3
          generalize takeM l at_ err 4 = t at *
          go_wp2_with (go_at_call 18; refine HC.out.mono ?_; rintro e w4 ⟨rfl, hR4, hO4⟩; have c4 : w4.cell? ⟨w2.heap.size + 1 + 1, 0, none⟩ = some (.int .u32 0) := (hB12.grown hO4 (by simp; omega)).cell 0; have f4 := (hB12.grown hO4 (by simp; omega)).frozen 0)
          go_meet
          rw [HM0.out]
          exact asked_num hR4 hO4 hB12 hgh
        · have hm0 := HM.out
          unfold doM at hm0
          rw [if_neg (by omega), if_pos rfl] at hm0
          have HM0 := Lib.hid hm0.symm
          have HC := Lib.hid (raw_any g cg Ag l at_ err n w3 hRg3 (by omega))
          clear hm0 hk0 hk3
          generalize takeM l at_ err n = t at *
          go_wp2_with (go_at_call 22; refine HC.out.mono ?_; rintro e w4 ⟨v4, rfl, hO5, hR4, hO4⟩; obtain ⟨A5, c5, rfl, _, _, _⟩ := hO5.form; have c4 : w4.cell? ⟨w2.heap.size + 1 + 1, 1, none⟩ = some (.slice none 0 0) := (hB12.grown hO4 (by simp; omega)).cell 1; have f4 := (hB12.grown hO4 (by simp; omega)).frozen 1)
          go_meet
          rw [HM0.out]
          exact asked_raw hR4 hO4 hO5 (Nat.le_refl _) hB12 hgh
        · have hm0 := HM.out
          unfold doM at hm0
          rw [if_pos rfl] at hm0
          by_cases hn : n < 0 ∨ (l.length : Int) < n
          · rw [if_pos hn] at hm0
            have HM0 := Lib.hid hm0.symm
            have HC := Lib.hid (seek_bad g cg Ag l at_ err n w3 hRg3 hn)
            have c4 : w3.cell? ⟨w2.heap.size + 1 + 1, 2, none⟩ = some (.int .i64 0) := hB12.cell 2
            have f4 := hB12.frozen 2
            clear hm0 hk0 hk3 hn
            go_wp2_with (go_at_call 23; refine HC.out.mono ?_; rintro e w4 ⟨rfl, rfl⟩)
            go_meet
            rw [HM0.out]
            exact asked_seek hRg3 (Only.refl g w3) hB12 hgh
          · rw [if_neg hn] at hm0
            obtain ⟨j, rfl⟩ := Int.eq_ofNat_of_zero_le (show 0 ≤ n by omega)
            rw [Int.toNat_natCast] at hm0
            have HM0 := Lib.hid hm0.symm
            have HC := Lib.hid (seek_ok g cg Ag l at_ j err w3 hRg3 (by omega))
            clear hm0 hk0 hk3 hn
            go_wp2_with (go_at_call 23; refine HC.out.mono ?_; rintro e w4 ⟨rfl, hR4, hO4⟩; have c4 : w4.cell? ⟨w2.heap.size + 1 + 1, 2, none⟩ = some (.int .i64 0) := (hB12.grown hO4 (by simp; omega)).cell 2; have f4 := (hB12.grown hO4 (by simp; omega)).frozen 2)
            go_meet
            rw [HM0.out]
            exact asked_seek hR4 hO4 hB12 hgh
      case rest =>
        obtain ⟨hRd, hbut, A4, c4, hB4, hr4⟩ := hcut
        dsimp only at hRd hB4 hr4
        have hcz := hbut.size
        have hbn := hbut.blk hB10 (by omega) (by omega)
        have hbn1 := hbut.blk hB11 (by omega) (by omega)
        have hbq := hbut.blk hBq3 (by omega) (by omega)
        have hbm := hbut.blk hBm3 (by omega) (by omega)
        have hom4 := hbut.ob hom3 (by omega) (by intro e5; have := hob _ e5; omega)
        have hr2 : RB wc w3.heap.size A2 bl := hbut.rb hrb3 (Nat.le_refl _) (fun ad h5 => by obtain ⟨ad2, h6, h7⟩ := hA2 ad h5; have := hob ad2.block (by rw [h6]; rfl); omega)
        have hb4 : Below w.heap.size w wc := hb3w.trans (hbut.below (by omega) (by omega) hb3w.size)
        have hzw := hb4.size
        clear hbut hB10 hB11 hB12 hBq3 hBm3 hom3 hrb3 hb3w hRg3 e1 hb23
        have hle2 := hRd.le
        go_wp2_with fail
        refine wp_region_facts (by kernel_rfl) [(72, Fact.is (.pointer (some ⟨w2.heap.size + 1 + 1, 0, none⟩))), (73, Fact.is (.int .u32 (x : Int))), (74, Fact.is (.pointer (some ⟨w2.heap.size + 1, 0, none⟩))), (75, Fact.is (.int .u32 (x : Int))), (76, Fact.is (.bool false)), (77, Fact.is (.bool false)), (78, Fact.is (.pointer (some ⟨w2.heap.size + 1 + 1, 1, none⟩))), (79, Fact.is (.slice A4 bl.length c4)), (80, Fact.is (.string (str bl))), (81, Fact.is (.pointer (some ⟨w2.heap.size + 1, 1, none⟩))), (82, Fact.is (.slice A2 bl.length c2)), (83, Fact.is (.string (str bl))), (84, Fact.is (.bool false)), (85, Fact.is (.bool false)), (86, Fact.is (.bool false)), (87, Fact.is (.pointer (some ⟨w2.heap.size + 1 + 1, 2, none⟩))), (88, Fact.is (.int .i64 te)), (89, Fact.is (.pointer (some ⟨w2.heap.size + 1, 2, none⟩))), (90, Fact.is (.int .i64 te)), (91, Fact.is (.bool false)), (92, Fact.is (.bool false)), (93, Fact.is (.bool false)), (94, Fact.is (.pointer (some ⟨g, 0, none⟩))), (95, Fact.is (.int .i64 (at2 : Int))), (96, Fact.is (.pointer (some ⟨w2.heap.size, 1, none⟩))), (97, Fact.is (.int .i64 (at2 : Int))), (98, Fact.is (.bool false)), (99, Fact.is (.bool false)), (100, Fact.is (.bool false)), (101, Fact.is (.pointer (some ⟨g, 0, none⟩))), (102, Fact.is (.int .i64 ((l.length : Int) - (at2 : Int)))), (103, Fact.is (.slice a0 l.length cap0)), (104, Fact.is (.int .i64 (l.length : Int))), (105, Fact.is (.pointer (some ⟨w2.heap.size, 1, none⟩))), (106, Fact.is (.int .i64 (at2 : Int))), (107, Fact.is (.int .i64 ((l.length : Int) - (at2 : Int)))), (108, Fact.is (.bool false)), (109, Fact.is (.bool false)), (110, Fact.is (.bool false)), (111, Fact.is (.pointer (some ⟨g, 0, none⟩))), (112, Fact.is (.int .i64 er2)), (113, Fact.is (.pointer (some ⟨w2.heap.size, 2, none⟩))), (114, Fact.is (.int .i64 er2)), (115, Fact.is (.bool false)), (116, Fact.is (.bool false))] [false, false, false, false, false, false, false, false, false, false, false, false, false, false, false, false, false, false, false, false, false, false, false, false, false, false, false, false, false, false, false, false, false, false, false, false, false, false, false, false, false, false, false, false, false, false, false, false, false, false, false, false, false, false, false, false, false, false, false, false, false, false, false, false, false, false, false, false, false, false, false, false, true, true, true, true, true, true, true, true, true, true, true, true, true, true, true, true, true, true, true, true, true, true, true, true, true, true, true, true, true, true, true, true, true, true, true, true, true, true, true, true, true, true, true, true, true, false, false, false, false, false, false, false, false, false, false] (by kernel_rfl) (by kernel_rfl) ?_ ?_
        · refine ⟨?_, ?_, ?_, ?_, ?_, ?_, ?_, ?_, ?_, ?_, ?_, ?_, ?_, ?_, ?_, ?_, ?_, ?_, ?_, ?_, ?_, ?_, ?_, ?_, ?_, ?_, ?_, ?_, ?_, ?_, ?_, ?_, ?_, ?_, ?_, ?_, ?_, ?_, ?_, ?_, ?_, ?_, ?_, ?_, ?_, trivial⟩
          · intro s ww hE hs hl K hK
            clear hs hl
            simp only [frameM, fillM, Nat.reduceAdd, Act.put, List.setIfInBounds_toArray, List.set_cons_succ, List.set_cons_zero] at hK ⊢
            go_simp
            exact hK _ _ (Below.refl _ _) rfl
          · intro s ww hE hs hl K hK
            have h72 : s 72 = .pointer (some ⟨w2.heap.size + 1 + 1, 0, none⟩) := hs 72 (by kernel_rfl)
            clear hs hl
            have q : ww.cell? ⟨w2.heap.size + 1 + 1, 0, none⟩ = some (.int .u32 (x : Int)) := (hB4.below hE hB4.lt).cell 0
            simp only [frameM, fillM, Nat.reduceAdd, Act.put, List.setIfInBounds_toArray, List.set_cons_succ, List.set_cons_zero, h72] at hK ⊢
            go_simp
            exact hK _ _ (Below.refl _ _) rfl
          · intro s ww hE hs hl K hK
            clear hs hl
            simp only [frameM, fillM, Nat.reduceAdd, Act.put, List.setIfInBounds_toArray, List.set_cons_succ, List.set_cons_zero] at hK ⊢
            go_simp
            exact hK _ _ (Below.refl _ _) rfl
          · intro s ww hE hs hl K hK
            have h74 : s 74 = .pointer (some ⟨w2.heap.size + 1, 0, none⟩) := hs 74 (by kernel_rfl)
            clear hs hl
            have q : ww.cell? ⟨w2.heap.size + 1, 0, none⟩ = some (.int .u32 (x : Int)) := (hbn1.below hE hbn1.lt).cell 0
            simp only [frameM, fillM, Nat.reduceAdd, Act.put, List.setIfInBounds_toArray, List.set_cons_succ, List.set_cons_zero, h74] at hK ⊢
            go_simp
            exact hK _ _ (Below.refl _ _) rfl
          · intro s ww hE hs hl K hK
            have h73 : s 73 = .int .u32 (x : Int) := hs 73 (by kernel_rfl)
            have h75 : s 75 = .int .u32 (x : Int) := hs 75 (by kernel_rfl)
            clear hs hl
            simp only [frameM, fillM, Nat.reduceAdd, Act.put, List.setIfInBounds_toArray, List.set_cons_succ, List.set_cons_zero, h73, h75] at hK ⊢
            go_simp
            exact hK _ _ (Below.refl _ _) rfl
          · intro s ww hE hs hl K hK
            have h76 : s 76 = .bool false := hs 76 (by kernel_rfl)
            clear hs hl
            simp only [frameM, fillM, Nat.reduceAdd, Act.put, List.setIfInBounds_toArray, List.set_cons_succ, List.set_cons_zero, h76] at hK ⊢
            go_simp
            exact hK _ _ (Below.refl _ _) rfl
          · intro s ww hE hs hl K hK
            have h77 : s 77 = .bool false := hs 77 (by kernel_rfl)
            clear hs hl
            simp only [frameM, fillM, Nat.reduceAdd, Act.put, List.setIfInBounds_toArray, List.set_cons_succ, List.set_cons_zero, h77] at hK ⊢
            go_simp
            exact hK _ _ (Below.refl _ _) rfl
          · intro s ww hE hs hl K hK
            have h78 : s 78 = .pointer (some ⟨w2.heap.size + 1 + 1, 1, none⟩) := hs 78 (by kernel_rfl)
            have h77 : s 77 = .bool false := hs 77 (by kernel_rfl)
            clear hs hl
            have q : ww.cell? ⟨w2.heap.size + 1 + 1, 1, none⟩ = some (.slice A4 bl.length c4) := (hB4.below hE hB4.lt).cell 1
            simp only [frameM, fillM, Nat.reduceAdd, Act.put, List.setIfInBounds_toArray, List.set_cons_succ, List.set_cons_zero, h78, h77] at hK ⊢
            go_simp
            exact hK _ _ (Below.refl _ _) rfl
          · intro s ww hE hs hl K hK
            have h79 : s 79 = .slice A4 bl.length c4 := hs 79 (by kernel_rfl)
            have h77 : s 77 = .bool false := hs 77 (by kernel_rfl)
            clear hs hl
            have hcv := conv_rb (P := Try.prog) 22 9 5 c4 Try.underlying22 Try.underlying5 Try.underlying9 (hr4.below hE)
            simp only [frameM, fillM, Nat.reduceAdd, Act.put, List.setIfInBounds_toArray, List.set_cons_succ, List.set_cons_zero, h79, h77] at hK ⊢
            go_simp
            exact hK _ _ (Below.refl _ _) rfl
          · intro s ww hE hs hl K hK
            have h77 : s 77 = .bool false := hs 77 (by kernel_rfl)
            clear hs hl
            simp only [frameM, fillM, Nat.reduceAdd, Act.put, List.setIfInBounds_toArray, List.set_cons_succ, List.set_cons_zero, h77] at hK ⊢
            go_simp
            exact hK _ _ (Below.refl _ _) rfl
          · intro s ww hE hs hl K hK
            have h81 : s 81 = .pointer (some ⟨w2.heap.size + 1, 1, none⟩) := hs 81 (by kernel_rfl)
            have h77 : s 77 = .bool false := hs 77 (by kernel_rfl)
            clear hs hl
            have q : ww.cell? ⟨w2.heap.size + 1, 1, none⟩ = some (.slice A2 bl.length c2) := (hbn1.below hE hbn1.lt).cell 1
            simp only [frameM, fillM, Nat.reduceAdd, Act.put, List.setIfInBounds_toArray, List.set_cons_succ, List.set_cons_zero, h81, h77] at hK ⊢
            go_simp
            exact hK _ _ (Below.refl _ _) rfl
          · intro s ww hE hs hl K hK
            have h82 : s 82 = .slice A2 bl.length c2 := hs 82 (by kernel_rfl)
            have h77 : s 77 = .bool false := hs 77 (by kernel_rfl)
            clear hs hl
            have hcv := conv_rb (P := Try.prog) 22 9 5 c2 Try.underlying22 Try.underlying5 Try.underlying9 ((hr2.more hcz).below hE)
            simp only [frameM, fillM, Nat.reduceAdd, Act.put, List.setIfInBounds_toArray, List.set_cons_succ, List.set_cons_zero, h82, h77] at hK ⊢
            go_simp
            exact hK _ _ (Below.refl _ _) rfl
          · intro s ww hE hs hl K hK
            have h80 : s 80 = .string (str bl) := hs 80 (by kernel_rfl)
            have h83 : s 83 = .string (str bl) := hs 83 (by kernel_rfl)
            have h77 : s 77 = .bool false := hs 77 (by kernel_rfl)
            clear hs hl
            simp only [frameM, fillM, Nat.reduceAdd, Act.put, List.setIfInBounds_toArray, List.set_cons_succ, List.set_cons_zero, h80, h83, h77] at hK ⊢
            go_simp
            exact hK _ _ (Below.refl _ _) rfl
          · intro s ww hE hs hl K hK
            have h77 : s 77 = .bool false := hs 77 (by kernel_rfl)
            have h84 : s 84 = .bool false := hs 84 (by kernel_rfl)
            clear hs hl
            simp only [frameM, fillM, Nat.reduceAdd, Act.put, List.setIfInBounds_toArray, List.set_cons_succ, List.set_cons_zero, h77, h84] at hK ⊢
            go_simp
            exact hK _ _ (Below.refl _ _) rfl
          · intro s ww hE hs hl K hK
            have h85 : s 85 = .bool false := hs 85 (by kernel_rfl)
            clear hs hl
            simp only [frameM, fillM, Nat.reduceAdd, Act.put, List.setIfInBounds_toArray, List.set_cons_succ, List.set_cons_zero, h85] at hK ⊢
            go_simp
            exact hK _ _ (Below.refl _ _) rfl
          · intro s ww hE hs hl K hK
            have h86 : s 86 = .bool false := hs 86 (by kernel_rfl)
            clear hs hl
            simp only [frameM, fillM, Nat.reduceAdd, Act.put, List.setIfInBounds_toArray, List.set_cons_succ, List.set_cons_zero, h86] at hK ⊢
            go_simp
            exact hK _ _ (Below.refl _ _) rfl
          · intro s ww hE hs hl K hK
            have h87 : s 87 = .pointer (some ⟨w2.heap.size + 1 + 1, 2, none⟩) := hs 87 (by kernel_rfl)
            have h86 : s 86 = .bool false := hs 86 (by kernel_rfl)
            clear hs hl
            have q : ww.cell? ⟨w2.heap.size + 1 + 1, 2, none⟩ = some (.int .i64 te) := (hB4.below hE hB4.lt).cell 2
            simp only [frameM, fillM, Nat.reduceAdd, Act.put, List.setIfInBounds_toArray, List.set_cons_succ, List.set_cons_zero, h87, h86] at hK ⊢
            go_simp
            exact hK _ _ (Below.refl _ _) rfl
          · intro s ww hE hs hl K hK
            have h86 : s 86 = .bool false := hs 86 (by kernel_rfl)
            clear hs hl
            simp only [frameM, fillM, Nat.reduceAdd, Act.put, List.setIfInBounds_toArray, List.set_cons_succ, List.set_cons_zero, h86] at hK ⊢
            go_simp
            exact hK _ _ (Below.refl _ _) rfl
          · intro s ww hE hs hl K hK
            have h89 : s 89 = .pointer (some ⟨w2.heap.size + 1, 2, none⟩) := hs 89 (by kernel_rfl)
            have h86 : s 86 = .bool false := hs 86 (by kernel_rfl)
            clear hs hl
            have q : ww.cell? ⟨w2.heap.size + 1, 2, none⟩ = some (.int .i64 te) := (hbn1.below hE hbn1.lt).cell 2
            simp only [frameM, fillM, Nat.reduceAdd, Act.put, List.setIfInBounds_toArray, List.set_cons_succ, List.set_cons_zero, h89, h86] at hK ⊢
            go_simp
            exact hK _ _ (Below.refl _ _) rfl
          · intro s ww hE hs hl K hK
            have h88 : s 88 = .int .i64 te := hs 88 (by kernel_rfl)
            have h90 : s 90 = .int .i64 te := hs 90 (by kernel_rfl)
            have h86 : s 86 = .bool false := hs 86 (by kernel_rfl)
            clear hs hl
            simp only [frameM, fillM, Nat.reduceAdd, Act.put, List.setIfInBounds_toArray, List.set_cons_succ, List.set_cons_zero, h88, h90, h86] at hK ⊢
            go_simp
            exact hK _ _ (Below.refl _ _) rfl
          · intro s ww hE hs hl K hK
            have h86 : s 86 = .bool false := hs 86 (by kernel_rfl)
            have h91 : s 91 = .bool false := hs 91 (by kernel_rfl)
            clear hs hl
            simp only [frameM, fillM, Nat.reduceAdd, Act.put, List.setIfInBounds_toArray, List.set_cons_succ, List.set_cons_zero, h86, h91] at hK ⊢
            go_simp
            exact hK _ _ (Below.refl _ _) rfl
          · intro s ww hE hs hl K hK
            have h92 : s 92 = .bool false := hs 92 (by kernel_rfl)
            clear hs hl
            simp only [frameM, fillM, Nat.reduceAdd, Act.put, List.setIfInBounds_toArray, List.set_cons_succ, List.set_cons_zero, h92] at hK ⊢
            go_simp
            exact hK _ _ (Below.refl _ _) rfl
          · intro s ww hE hs hl K hK
            have h93 : s 93 = .bool false := hs 93 (by kernel_rfl)
            clear hs hl
            simp only [frameM, fillM, Nat.reduceAdd, Act.put, List.setIfInBounds_toArray, List.set_cons_succ, List.set_cons_zero, h93] at hK ⊢
            go_simp
            exact hK _ _ (Below.refl _ _) rfl
          · intro s ww hE hs hl K hK
            have h94 : s 94 = .pointer (some ⟨g, 0, none⟩) := hs 94 (by kernel_rfl)
            have h93 : s 93 = .bool false := hs 93 (by kernel_rfl)
            clear hs hl
            simp only [frameM, fillM, Nat.reduceAdd, Act.put, List.setIfInBounds_toArray, List.set_cons_succ, List.set_cons_zero, h94, h93] at hK ⊢
            go_simp
            go_at_call 24
            refine (at_any g cg Ag l at2 er2 ww (after_own hRd hE)).mono ?_
            rintro e we ⟨rfl, rfl⟩
            exact hK _ _ (Below.refl _ _) rfl
          · intro s ww hE hs hl K hK
            have h93 : s 93 = .bool false := hs 93 (by kernel_rfl)
            clear hs hl
            simp only [frameM, fillM, Nat.reduceAdd, Act.put, List.setIfInBounds_toArray, List.set_cons_succ, List.set_cons_zero, h93] at hK ⊢
            go_simp
            exact hK _ _ (Below.refl _ _) rfl
          · intro s ww hE hs hl K hK
            have h96 : s 96 = .pointer (some ⟨w2.heap.size, 1, none⟩) := hs 96 (by kernel_rfl)
            have h93 : s 93 = .bool false := hs 93 (by kernel_rfl)
            clear hs hl
            have q : ww.cell? ⟨w2.heap.size, 1, none⟩ = some (.int .i64 (at2 : Int)) := (hbn.below hE hbn.lt).cell 1
            simp only [frameM, fillM, Nat.reduceAdd, Act.put, List.setIfInBounds_toArray, List.set_cons_succ, List.set_cons_zero, h96, h93] at hK ⊢
            go_simp
            exact hK _ _ (Below.refl _ _) rfl
          · intro s ww hE hs hl K hK
            have h95 : s 95 = .int .i64 (at2 : Int) := hs 95 (by kernel_rfl)
            have h97 : s 97 = .int .i64 (at2 : Int) := hs 97 (by kernel_rfl)
            have h93 : s 93 = .bool false := hs 93 (by kernel_rfl)
            clear hs hl
            simp only [frameM, fillM, Nat.reduceAdd, Act.put, List.setIfInBounds_toArray, List.set_cons_succ, List.set_cons_zero, h95, h97, h93] at hK ⊢
            go_simp
            exact hK _ _ (Below.refl _ _) rfl
          · intro s ww hE hs hl K hK
            have h93 : s 93 = .bool false := hs 93 (by kernel_rfl)
            have h98 : s 98 = .bool false := hs 98 (by kernel_rfl)
            clear hs hl
            simp only [frameM, fillM, Nat.reduceAdd, Act.put, List.setIfInBounds_toArray, List.set_cons_succ, List.set_cons_zero, h93, h98] at hK ⊢
            go_simp
            exact hK _ _ (Below.refl _ _) rfl
          · intro s ww hE hs hl K hK
            have h99 : s 99 = .bool false := hs 99 (by kernel_rfl)
            clear hs hl
            simp only [frameM, fillM, Nat.reduceAdd, Act.put, List.setIfInBounds_toArray, List.set_cons_succ, List.set_cons_zero, h99] at hK ⊢
            go_simp
            exact hK _ _ (Below.refl _ _) rfl
          · intro s ww hE hs hl K hK
            have h100 : s 100 = .bool false := hs 100 (by kernel_rfl)
            clear hs hl
            simp only [frameM, fillM, Nat.reduceAdd, Act.put, List.setIfInBounds_toArray, List.set_cons_succ, List.set_cons_zero, h100] at hK ⊢
            go_simp
            exact hK _ _ (Below.refl _ _) rfl
          · intro s ww hE hs hl K hK
            have h101 : s 101 = .pointer (some ⟨g, 0, none⟩) := hs 101 (by kernel_rfl)
            have h100 : s 100 = .bool false := hs 100 (by kernel_rfl)
            clear hs hl
            simp only [frameM, fillM, Nat.reduceAdd, Act.put, List.setIfInBounds_toArray, List.set_cons_succ, List.set_cons_zero, h101, h100] at hK ⊢
            go_simp
            go_at_call 19
            refine (left_any g cg Ag l at2 er2 ww (after_own hRd hE)).mono ?_
            rintro e we ⟨rfl, k5, rfl⟩
            exact hK _ _ (below_drewN (Below.refl _ _) k5) rfl
          · intro s ww hE hs hl K hK
            have h100 : s 100 = .bool false := hs 100 (by kernel_rfl)
            clear hs hl
            simp only [frameM, fillM, Nat.reduceAdd, Act.put, List.setIfInBounds_toArray, List.set_cons_succ, List.set_cons_zero, h100] at hK ⊢
            go_simp
            exact hK _ _ (Below.refl _ _) rfl
          · intro s ww hE hs hl K hK
            have h103 : s 103 = .slice a0 l.length cap0 := hs 103 (by kernel_rfl)
            have h100 : s 100 = .bool false := hs 100 (by kernel_rfl)
            clear hs hl
            simp only [frameM, fillM, Nat.reduceAdd, Act.put, List.setIfInBounds_toArray, List.set_cons_succ, List.set_cons_zero, h103, h100] at hK ⊢
            go_simp
            exact hK _ _ (Below.refl _ _) rfl
          · intro s ww hE hs hl K hK
            have h100 : s 100 = .bool false := hs 100 (by kernel_rfl)
            clear hs hl
            simp only [frameM, fillM, Nat.reduceAdd, Act.put, List.setIfInBounds_toArray, List.set_cons_succ, List.set_cons_zero, h100] at hK ⊢
            go_simp
            exact hK _ _ (Below.refl _ _) rfl
          · intro s ww hE hs hl K hK
            have h105 : s 105 = .pointer (some ⟨w2.heap.size, 1, none⟩) := hs 105 (by kernel_rfl)
            have h100 : s 100 = .bool false := hs 100 (by kernel_rfl)
            clear hs hl
            have q : ww.cell? ⟨w2.heap.size, 1, none⟩ = some (.int .i64 (at2 : Int)) := (hbn.below hE hbn.lt).cell 1
            simp only [frameM, fillM, Nat.reduceAdd, Act.put, List.setIfInBounds_toArray, List.set_cons_succ, List.set_cons_zero, h105, h100] at hK ⊢
            go_simp
            exact hK _ _ (Below.refl _ _) rfl
          · intro s ww hE hs hl K hK
            have h104 : s 104 = .int .i64 (l.length : Int) := hs 104 (by kernel_rfl)
            have h106 : s 106 = .int .i64 (at2 : Int) := hs 106 (by kernel_rfl)
            have h100 : s 100 = .bool false := hs 100 (by kernel_rfl)
            clear hs hl
            have hws : IntKind.i64.wrap ((l.length : Int) - (at2 : Int)) = (l.length : Int) - (at2 : Int) := IntWalk.i64_in _ (by omega)
            simp only [frameM, fillM, Nat.reduceAdd, Act.put, List.setIfInBounds_toArray, List.set_cons_succ, List.set_cons_zero, h104, h106, h100] at hK ⊢
            go_simp
            exact hK _ _ (Below.refl _ _) rfl
          · intro s ww hE hs hl K hK
            have h102 : s 102 = .int .i64 ((l.length : Int) - (at2 : Int)) := hs 102 (by kernel_rfl)
            have h107 : s 107 = .int .i64 ((l.length : Int) - (at2 : Int)) := hs 107 (by kernel_rfl)
            have h100 : s 100 = .bool false := hs 100 (by kernel_rfl)
            clear hs hl
            simp only [frameM, fillM, Nat.reduceAdd, Act.put, List.setIfInBounds_toArray, List.set_cons_succ, List.set_cons_zero, h102, h107, h100] at hK ⊢
            go_simp
            exact hK _ _ (Below.refl _ _) rfl
          · intro s ww hE hs hl K hK
            have h100 : s 100 = .bool false := hs 100 (by kernel_rfl)
            have h108 : s 108 = .bool false := hs 108 (by kernel_rfl)
            clear hs hl
            simp only [frameM, fillM, Nat.reduceAdd, Act.put, List.setIfInBounds_toArray, List.set_cons_succ, List.set_cons_zero, h100, h108] at hK ⊢
            go_simp
            exact hK _ _ (Below.refl _ _) rfl
          · intro s ww hE hs hl K hK
            have h109 : s 109 = .bool false := hs 109 (by kernel_rfl)
            clear hs hl
            simp only [frameM, fillM, Nat.reduceAdd, Act.put, List.setIfInBounds_toArray, List.set_cons_succ, List.set_cons_zero, h109] at hK ⊢
            go_simp
            exact hK _ _ (Below.refl _ _) rfl
          · intro s ww hE hs hl K hK
            have h110 : s 110 = .bool false := hs 110 (by kernel_rfl)
            clear hs hl
            simp only [frameM, fillM, Nat.reduceAdd, Act.put, List.setIfInBounds_toArray, List.set_cons_succ, List.set_cons_zero, h110] at hK ⊢
            go_simp
            exact hK _ _ (Below.refl _ _) rfl
          · intro s ww hE hs hl K hK
            have h111 : s 111 = .pointer (some ⟨g, 0, none⟩) := hs 111 (by kernel_rfl)
            have h110 : s 110 = .bool false := hs 110 (by kernel_rfl)
            clear hs hl
            simp only [frameM, fillM, Nat.reduceAdd, Act.put, List.setIfInBounds_toArray, List.set_cons_succ, List.set_cons_zero, h111, h110] at hK ⊢
            go_simp
            go_at_call 20
            refine (err_any g cg Ag l at2 er2 ww (after_own hRd hE)).mono ?_
            rintro e we ⟨rfl, rfl⟩
            exact hK _ _ (Below.refl _ _) rfl
          · intro s ww hE hs hl K hK
            have h110 : s 110 = .bool false := hs 110 (by kernel_rfl)
            clear hs hl
            simp only [frameM, fillM, Nat.reduceAdd, Act.put, List.setIfInBounds_toArray, List.set_cons_succ, List.set_cons_zero, h110] at hK ⊢
            go_simp
            exact hK _ _ (Below.refl _ _) rfl
          · intro s ww hE hs hl K hK
            have h113 : s 113 = .pointer (some ⟨w2.heap.size, 2, none⟩) := hs 113 (by kernel_rfl)
            have h110 : s 110 = .bool false := hs 110 (by kernel_rfl)
            clear hs hl
            have q : ww.cell? ⟨w2.heap.size, 2, none⟩ = some (.int .i64 er2) := (hbn.below hE hbn.lt).cell 2
            simp only [frameM, fillM, Nat.reduceAdd, Act.put, List.setIfInBounds_toArray, List.set_cons_succ, List.set_cons_zero, h113, h110] at hK ⊢
            go_simp
            exact hK _ _ (Below.refl _ _) rfl
          · intro s ww hE hs hl K hK
            have h112 : s 112 = .int .i64 er2 := hs 112 (by kernel_rfl)
            have h114 : s 114 = .int .i64 er2 := hs 114 (by kernel_rfl)
            have h110 : s 110 = .bool false := hs 110 (by kernel_rfl)
            clear hs hl
            simp only [frameM, fillM, Nat.reduceAdd, Act.put, List.setIfInBounds_toArray, List.set_cons_succ, List.set_cons_zero, h112, h114, h110] at hK ⊢
            go_simp
            exact hK _ _ (Below.refl _ _) rfl
          · intro s ww hE hs hl K hK
            have h110 : s 110 = .bool false := hs 110 (by kernel_rfl)
            have h115 : s 115 = .bool false := hs 115 (by kernel_rfl)
            clear hs hl
            simp only [frameM, fillM, Nat.reduceAdd, Act.put, List.setIfInBounds_toArray, List.set_cons_succ, List.set_cons_zero, h110, h115] at hK ⊢
            go_simp
            exact hK _ _ (Below.refl _ _) rfl
        · intro s ww hE hs
          have h116 : s 116 = .bool false := hs 116 (by kernel_rfl)
          clear hs
          simp only [frameM, fillM, Nat.reduceAdd]
          simp only [h116]
          clear h116
          have hBn := hbn.below hE hbn.lt
          have hBm := hbm.below hE hbm.lt
          have p0 : ww.cell? ⟨w2.heap.size, 0, none⟩ = some (.slice Am l.length cm) := hBn.cell 0
          have p1 : ww.cell? ⟨w2.heap.size, 1, none⟩ = some (.int .i64 (at2 : Int)) := hBn.cell 1
          have p2 : ww.cell? ⟨w2.heap.size, 2, none⟩ = some (.int .i64 er2) := hBn.cell 2
          have o0 : ww.cell? ⟨wd.heap.size, 0, none⟩ = some (.slice Am l.length cm) := hBm.cell 0
          have o1 : ww.cell? ⟨wd.heap.size, 1, none⟩ = some (.int .i64 (at_ : Int)) := hBm.cell 1
          have o2 : ww.cell? ⟨wd.heap.size, 2, none⟩ = some (.int .i64 err) := hBm.cell 2
          have z0 := hBm.frozen 0
          have z1 := hBm.frozen 1
          have z2 := hBm.frozen 2
          go_wp2_with fail
          go_roundw
          case rel =>
            have hRw := after_own hRd hE
            have hBqw := hbq.below hE hbq.lt
            have homw := OB.more hom4 hE
            have hne : (Value.slice Am l.length cm).ownBlock ≠ some wd.heap.size := fun e5 => by have := hob7 _ e5; omega
            exact ⟨k + 1, at2, er2, by omega, by go_num, rd_set (rd_set (rd_set hRw (p := ⟨wd.heap.size, 0, none⟩) hglt _) (p := ⟨wd.heap.size, 1, none⟩) hglt _) (p := ⟨wd.heap.size, 2, none⟩) hglt _,
              ((hBqw.far (p := ⟨wd.heap.size, 0, none⟩) (Nat.ne_of_lt hqlt) _).far (p := ⟨wd.heap.size, 1, none⟩) (Nat.ne_of_lt hqlt) _).far (p := ⟨wd.heap.size, 2, none⟩) (Nat.ne_of_lt hqlt) _,
              ((hBm.set_ 0 _).set_ 1 _).set_ 2 _, ob_far (ob_far (ob_far homw (p := ⟨wd.heap.size, 0, none⟩) hne _) (p := ⟨wd.heap.size, 1, none⟩) hne _) (p := ⟨wd.heap.size, 2, none⟩) hne _,
              (((hb4.trans (below_mono hE hzw)).setCell (p := ⟨wd.heap.size, 0, none⟩) (by show w.heap.size ≤ wd.heap.size; omega) _).setCell (p := ⟨wd.heap.size, 1, none⟩) (by show w.heap.size ≤ wd.heap.size; omega) _).setCell (p := ⟨wd.heap.size, 2, none⟩) (by show w.heap.size ≤ wd.heap.size; omega) _⟩
          case measure => simp [intOf]; omega
    · obtain rfl : k = ps.length := by omega
      have e1 : wr.cell? ⟨q, 1, none⟩ = some (.int .i64 0) := hBq.cell 1
      have e2 : wr.cell? ⟨q, 2, none⟩ = some (.int .i64 0) := hBq.cell 2
      go_wp2_with (first | (go_at_call 24; refine (at_cell q 0 wr e1).mono ?_; rintro e w' ⟨rfl, rfl⟩) | (go_at_call 20; refine (err_cell q 0 wr e2).mono ?_; rintro e w' ⟨rfl, rfl⟩))
      go_ret
      exact ⟨rfl, hb⟩

set_option maxRecDepth 100000 in
theorem contract (H : Type) (enc : TypeId × Value → H) (W : World) (base : Nat) (args : Array Value) (ds gs : List (DataW H)) (before : List MemPlace)
    (hval0 : ∀ (j : Nat) t v, Try.f7.params[j]? = some t → args[j]? = some v → Value.okWide Try.prog W .any base t v)
    (hW : DataW.Whole enc Try.prog Try.f7.params.toList Rows.octetReadsSpec.vars false W args.toList ds gs before)
    (hsz0 : (DataW.weightsEach Try.prog (Try.f7.params.toList ++ Rows.octetReadsSpec.plain.varTypes Try.prog) (ds ++ gs)).all (· ≤ reachBytes) = true) :
    Calls Try.prog 7 args W fun e W' => ∃ v, e = .returned v ∧ Rows.octetReadsSpec.post enc Try.prog Try.f7 false true false false W args v W' := by
  have hval : ∀ (j : Nat) t v, Try.f7.params[j]? = some t → args[j]? = some v → Value.okWide Try.prog W .any base t v := hval0
  have hsz : (DataW.weightsEach Try.prog (Try.f7.params.toList ++ Rows.octetReadsSpec.plain.varTypes Try.prog) (ds ++ gs)).all (· ≤ reachBytes) = true := hsz0
  have hW' := hW
  obtain ⟨p, q, hA0, hV, rfl, hfz, hnd⟩ := hW
  have hA : DataW.TrodAll enc Try.prog W 0 (fun _ => true) true Try.f7.params.toList args.toList ds p := hA0
  rw [Try.params7] at hA hval hsz
  obtain ⟨v0, vs0, d0, ds0, p0, q0, hargs, rfl, rfl, h0, r0⟩ := trodAll_cons hA
  obtain ⟨v1, vs1, d1, ds1, p1, q1, rfl, rfl, rfl, h1, r1⟩ := trodAll_cons r0
  obtain ⟨rfl, rfl, rfl⟩ := trodAll_nil r1
  obtain rfl : args = #[v0, v1] := by cases args; simp_all
  obtain ⟨rfl, rfl⟩ := trodVars_none hV
  obtain ⟨a0, len0, cap0, rfl⟩ := okWide_slice Try.underlying22 (hval 0 22 v0 rfl rfl)
  have k0 := h0
  have lt0 : ∀ x ∈ p0, x.block < W.heap.size := by obtain ⟨m, hm⟩ := k0; exact DataW.trod_lt m _ _ _ hm
  obtain ⟨z0, w0, hcap0, hbk0⟩ : ∃ zs, IsRow .u8 W a0 len0 cap0 zs ∧ cap0 * 1 ≤ 140737488351232 ∧ Rows.uptoBulk d0 = cap0 + 1 := by
    obtain ⟨fuel, hf⟩ := h0
    rcases open_ints Try.underlying22 Try.underlying5 (by kernel_rfl) hf with ⟨hcs, hx⟩ | ⟨x, l, c, zs, hcs, _, hl, hm, hz, hx, hcell, hwz⟩
    · simp [Value.cells] at hcs
      obtain ⟨rfl, rfl, rfl⟩ := hcs
      simp only [Prod.mk.injEq] at hx
      exact ⟨[], .inl ⟨rfl, rfl, rfl, rfl⟩, by omega, by rw [hx.1]; simp [Rows.uptoBulk]⟩
    · simp [Value.cells] at hcs
      obtain ⟨rfl, rfl, rfl⟩ := hcs
      simp only [Prod.mk.injEq] at hx
      obtain ⟨hd, _⟩ := hx
      have hz' : zs.length = cap0 := by simpa using hz
      refine ⟨zs, .inr ⟨_, rfl, hl, hm, hz', hcell, hwz⟩, ?_, by rw [hd]; exact bulk_row _ _ _ hl hz'⟩
      have hb := sized_slice hsz (j := 0) (t := 22) (e := 5) rfl (by rw [← hd]; rfl) Try.underlying22
      rw [show Try.prog.bytesOf 5 = 1 from by kernel_rfl] at hb
      simp only [lits, List.length_map, List.length_take, List.length_drop, reachBytes, hz'] at hb
      rw [Nat.min_eq_left hl] at hb
      rw [show len0 + (cap0 - len0) = cap0 from by omega] at hb
      simpa using hb
  have k1 := h1
  have lt1 : ∀ x ∈ p1, x.block < W.heap.size := by obtain ⟨m, hm⟩ := k1; exact DataW.trod_lt m _ _ _ hm
  have hwt1 : ∀ n ∈ d1.weights Try.prog 44, n ≤ 140737488351232 := fun n hn => by
    have := of_decide_eq_true (List.all_eq_true.1 hsz _ (DataW.weights_mem_each (j := 1) (t := 44) rfl rfl n hn))
    simpa [reachBytes] using this
  clear hA0 hval0
  refine (walk a0 len0 cap0 z0 v1 d1 p1 base W w0 hcap0 (hval 1 44 v1 rfl rfl) h1 hwt1).mono fun e W' ⟨he, bel⟩ => ?_
  subst he
  exact ⟨_, rfl, _, _, _, [], _, [], hW', trodAll_mk1 (shut_bool Try.underlying4 _), (trodAll_cons_mk (Below.trod laidOut (by kernel_rfl) (of_decide_eq_true (by kernel_rfl)) k0 bel lt0) (trodAll_cons_mk (Below.trod laidOut (by kernel_rfl) (of_decide_eq_true (by kernel_rfl)) k1 bel lt1) trodAll_mk0)), rfl, bel.frame _, fun h => by cases h⟩

set_option maxRecDepth 100000 in
theorem lifted (os : Os) (started : os.Started) (H : Type) (enc : TypeId × Value → H) :
    ReturnsInHanded {} Try.checked os 7 .any (Rows.octetReadsSpec.pre6 enc Try.prog Try.f7 Rows.octetReadsRow.domain false) (Rows.octetReadsSpec.post enc Try.prog Try.f7 false true false false) := by
  refine returnsInHanded_of_change_sized (C := Try.checked) own started (by kernel_rfl) Try.func7
    (ChangeSpec.witness6 (enc := enc) (C := Try.checked) false ⟨#[], #[.slice none 0 0, .slice none 0 0], []⟩ 8 (by kernel_rfl) (by kernel_rfl) (by kernel_rfl) (by kernel_rfl)) ?_
  intro W base args ds gs before hval hW _ hsz _
  exact contract H enc W base args ds gs before hval hW hsz

theorem over : Rows.octetReadsRow.holds Try.pinned (OpenSpec.ofChange Rows.octetReadsSpec) :=
  OpenClaim.holds_of_wide 7 Try.f7 rfl rfl rfl rfl rfl rfl rfl ⟨rfl, rfl, rfl, rfl, rfl⟩ rfl rfl rfl rfl rfl (by kernel_rfl) Try.func7 (by kernel_rfl)
    (of_decide_eq_true (by kernel_rfl)) (by unfold Func.isWrapper; first | (rw [if_pos (by decide +kernel)]; kernel_rfl) | (rw [if_neg (by decide +kernel)]; exact ⟨rfl, rfl⟩))
    (fun os started H enc _ => lifted os started H enc)

/-- The statement. -/
theorem proved : Rows.OctetReadsSaid := over
#print axioms proved
end Go.Proofs.Ytfkkfkfngdpgbaa.octetReads
