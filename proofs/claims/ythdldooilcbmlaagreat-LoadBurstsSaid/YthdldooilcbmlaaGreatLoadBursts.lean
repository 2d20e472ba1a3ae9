/-
  The law LoadBursts answers true for every bundle, place and turn. No condition.
-/
import Derived.Test.YthdldooilcbmlaaGreatRows
import Derived.Test.YthdldooilcbmlaaGreatK18
import Derived.BigRegion
import Derived.WalkKit
import Derived.Outline
import Derived.ProofKit
import Derived.OpenShut
import Derived.ShutString
import Derived.ChangeOld
import Derived.Below
import Derived.Deep.CondSized
namespace Go.Proofs.YthdldooilcbmlaaGreat.loadBursts
open Go.ChangeShapes Go.WideShapes Go.ChangeAt Go.RowKit
open Go.ChangeMaps (open_string shut_string)
set_option linter.unusedVariables false

theorem own : ownKnob Tryz.prog.godebug = none := by kernel_rfl
theorem laidOut : laidOutB Tryz.prog = true := by kernel_rfl

/-- Turned bytes are found out. -/
theorem burst_found {r : List PStep} {a x : Nat} (h : a + 4 ≤ (bytesB r).length) (hx : x < 4294967296) (h0 : x ≠ 0) (hl : (bytesB r).length ≤ 16777216) {k : Int} (he : LoadErr (burst (bytesB r) a x 4) k) : k = 330 := by
  have hlen := burst_len (bytesB r) a x 4
  have h4 : 4 ≤ (burst (bytesB r) a x 4).length := by omega
  have hneq : le 4 (crc ((burst (bytesB r) a x 4).take ((burst (bytesB r) a x 4).length - 4))) ≠ (burst (bytesB r) a x 4).drop ((burst (bytesB r) a x 4).length - 4) := fun e => by
    have h1 := crc_self ((burst (bytesB r) a x 4).take ((burst (bytesB r) a x 4).length - 4))
    rw [e, List.take_append_drop] at h1
    have h2 : crc (bytesB r) = 558161692 := crc_self (bodyB r)
    exact h0 ((burst_crc (bytesB r) a x h hx).1 (by omega))
  rcases he with ⟨h, -⟩ | ⟨-, h, -⟩ | ⟨-, -, -, h⟩ | ⟨-, -, h, -⟩
  · omega
  · omega
  · exact h
  · exact absurd h hneq
theorem burst_not {r r' : List PStep} {a x : Nat} (h : a + 4 ≤ (bytesB r).length) (hx : x < 4294967296) (h0 : x ≠ 0) (he : bytesB r' = burst (bytesB r) a x 4) : False := by
  have h1 : crc (bytesB r') = 558161692 := crc_self (bodyB r')
  have h2 : crc (bytesB r) = 558161692 := crc_self (bodyB r)
  rw [he] at h1
  exact h0 ((burst_crc (bytesB r) a x h hx).1 (by omega))
set_option maxHeartbeats 16000000 in
set_option maxRecDepth 100000 in
theorem bursts_walk (v : Value) (a0 : Int) (x : Nat) (l : List PStep) (vs : List Value) (w : World) (h : StepsR w v l vs) (hin : BunIn l) (ha : -9223372036854775808 ≤ a0 ∧ a0 ≤ 9223372036854775807) (hx : x < 4294967296) :
    Calls Tryz.prog 3 #[.agg #[v], .int .i64 a0, .int .u32 (x : Int)] w fun en w' => en = .returned (.bool true) ∧ Below w.heap.size w w' := by
  have HS := Lib.hid h
  have HIN := Lib.hid hin
  obtain ⟨A, c, rfl, -, -, -, -, -⟩ := h
  obtain ⟨n, hn⟩ : ∃ n, l.length = n := ⟨_, rfl⟩
  rw [hn] at HS ⊢
  clear hn hin
  obtain ⟨W0, hW0⟩ : ∃ W0, w.alloc (.cells #[.slice A n c] 24) = W0 := ⟨_, rfl⟩
  have hb0 : Below w.heap.size w W0 := by rw [← hW0]; exact (Below.refl _ w).alloc (Nat.le_refl _) _
  have b0 : Blk W0 w.heap.size 24 #[.slice A n c] := by rw [← hW0]; exact Blk.new w _ _
  have HWK := Lib.hid (lwakes_any W0)
  have HB0 := Lib.hid hb0
  have HG0 := Lib.hid b0
  clear hb0 b0
  go_enter Tryz.func3, Tryz.ntmps3
  go_wp2_with fail
  refine HWK.out.mono ?_
  rintro en w1 ⟨rfl, hb1⟩
  have HB1 := Lib.hid (HB0.out.trans (hb1.mono HB0.out.size))
  have x0 : w1.cell? ⟨w.heap.size, 0, none⟩ = some (.slice A n c) := (HG0.out.below hb1 HG0.out.lt).cell 0
  have HSO := Lib.hid (some_any (.slice A n c) l vs w1 (HS.out.more HB1.out) HIN.out)
  clear hb1 hW0 HWK HB0 HG0
  go_wp2_with fail
  refine HSO.out.mono ?_
  rintro en w2 ⟨hb2, ⟨A1, n1, c1, A2, n2, c2, rfl⟩ | ⟨Ar, cr, r, us, Bo, d, rfl, hck, hfit, hown, hby⟩⟩
  · have HB2 := Lib.hid (HB1.out.trans (hb2.mono HB1.out.size))
    clear hb2 x0 HSO
    go_wp2
    go_ret
    exact ⟨rfl, HB2.out.alloc HB2.out.size _⟩
  · have HB2 := Lib.hid (HB1.out.trans (hb2.mono HB1.out.size))
    have HBY := Lib.hid hby
    have HCK := Lib.hid (And.intro hck hfit)
    have HLL := Lib.hid (bytes_body (r := r) rfl).1
    obtain ⟨nr, hnr⟩ : ∃ nr, r.length = nr := ⟨_, rfl⟩
    obtain ⟨no, hno⟩ : ∃ no, (bytesB r).length = no := ⟨_, rfl⟩
    rw [hno] at HBY HLL HCK
    rw [hnr, hno]
    have HNO := Lib.hid hno
    have hno4 : 4 ≤ no := HLL.out
    have hno9 : no ≤ 16777216 := HCK.out.2
    clear hb2 x0 HSO hby hck hfit hown hnr hno
    have hba := (Below.refl w2.heap.size w2).alloc (Nat.le_refl _) (.cells #[.slice Ar nr cr] 24)
    have HB3 := Lib.hid (HB2.out.trans (hba.mono HB2.out.size))
    have HBY3 := Lib.hid (own_base (own_more HBY.out hba) HB1.out.size)
    have HZ1 := Lib.hid HB1.out.size
    clear hba HB2 HBY HB1
    by_cases hx0 : x = 0
    · subst hx0
      go_wp2
      go_ret
      exact ⟨rfl, HB3.out⟩
    · have hxe : ((x : Int) == 0) = false := by rw [beq_eq_false_iff_ne]; omega
      have hxd : decide ((x : Int) = 0) = false := by simp; omega
      have hxd2 : decide (x = 0) = false := by simp; omega
      go_upto_region 7 with (fail)
      have h3 : 0 < (no : Int) - 3 := by omega
      obtain ⟨at_, hat⟩ : ∃ at_ : Nat, max a0 0 % ((no : Int) - 3) = (at_ : Int) := ⟨_, (Int.toNat_of_nonneg (Int.emod_nonneg _ (by omega))).symm⟩
      have hat4 : at_ + 4 ≤ no := by
        have := Int.emod_lt_of_pos (max a0 0) h3
        omega
      rw [hat]
      clear hat h3
      obtain ⟨L0, hL0⟩ : ∃ L0, bytesB r = L0 := ⟨_, rfl⟩
      have HFO := Lib.hid (fun (k : Int) (he : LoadErr (burst L0 at_ x 4) k) => burst_found (r := r) (a := at_) (x := x) (by rw [HNO.out]; exact hat4) hx hx0 (by rw [HNO.out]; exact hno9) (k := k) (by rw [hL0]; exact he))
      have HNT := Lib.hid (fun (r' : List PStep) (he : bytesB r' = burst L0 at_ x 4) => burst_not (r := r) (a := at_) (x := x) (r' := r') (by rw [HNO.out]; exact hat4) hx hx0 (by rw [hL0]; exact he))
      rw [hL0] at HBY3 HNO
      clear hL0
      obtain ⟨g, cap, hv, hgb, hgl⟩ := World.ownsRow.form HBY3.out (by rw [HNO.out]; omega)
      have hA : Bo = some ⟨g, 0, none⟩ := by injection hv
      subst hA
      clear hv
      generalize w2.alloc (.cells #[.slice Ar nr cr] 24) = w3 at *
      have hat9 : (at_ : Int) ≤ 16777216 := by omega
      have HGB := Lib.hid (And.intro hgb hgl)
      clear hgl
      go_wp2
      go_loopw [33] (fun i wr => ∃ k : Nat, k ≤ 4 ∧ i = .int .i64 (k : Int) ∧ OB wr w.heap.size 5 (.slice (some ⟨g, 0, none⟩) no d) (burst L0 at_ x k) ∧ Below w.heap.size w wr) (fun i _ => 4 - (Lib.intOf i).toNat)
      case atStart => exact ⟨0, by omega, rfl, HBY3.out, HB3.out⟩
      case round =>
        obtain ⟨k, hk, rfl, ho, hb⟩ := hrel
        have hlenb := burst_len L0 at_ x k
        rw [HNO.out] at hlenb
        by_cases hlt : k < 4
        · obtain ⟨hcell, hfr⟩ := ob_at (i := at_ + k) ho (by omega)
          have hbl := ((burst L0 at_ x k).getD (at_ + k) 0).toNat_lt
          have h1 : (k : Int) < 4 := by omega
          have h8 : (0 : Int) ≤ 8 * (k : Int) := by omega
          have h32 : 8 * (k : Int) < 32 := by omega
          have q0 : (0 : Int) ≤ (at_ : Int) + (k : Int) := by omega
          have q1 : ((at_ : Int) + (k : Int) : Int) < (no : Int) := by omega
          have HO := Lib.hid ho
          have HB := Lib.hid hb
          obtain ⟨b0, hb0⟩ : ∃ b0, (burst L0 at_ x k).getD (at_ + k) 0 = b0 := ⟨_, rfl⟩
          rw [hb0] at hcell hbl
          have HBB := Lib.hid hb0
          clear ho hb hlenb hb0
          go_wp2
          go_region
          all_goals go_wp2
          go_roundw
          case rel => exact ⟨k + 1, by omega, by go_num, ob_burst HO.out HBB.out hlt rfl, ((HB.out.setCell (p := ⟨g, _, none⟩) hgb _).drew)⟩
          case measure => simp [Lib.intOf] <;> omega
        · obtain rfl : k = 4 := by omega
          obtain ⟨A7, c7, hv7, hlc7, hcm7, hr7⟩ := ho.form
          have hA7 : A7 = some ⟨g, 0, none⟩ := by injection hv7 with h1 h2 h3; exact h1.symm
          have hc7 : c7 = d := by injection hv7 with h1 h2 h3; exact h3.symm
          subst hA7 hc7
          clear hv7
          have HLD := Lib.hid (load_any (some ⟨g, 0, none⟩) (burst L0 at_ x 4).length c7 (burst L0 at_ x 4) wr hr7 rfl hlc7 hcm7)
          rw [hlenb] at HLD
          have HB := Lib.hid hb
          clear hr7 hlc7 hcm7 hlenb ho hb
          go_wp2_with fail
          refine HLD.out.mono ?_
          rintro en w5 ⟨hb5, ⟨k, rfl, he⟩ | ⟨g5, r5, -, he, -, -⟩⟩
          · obtain rfl := HFO.out k he
            have HB5 := Lib.hid (HB.out.trans (hb5.mono HB.out.size))
            clear he hb5
            go_wp2
            go_ret
            exact ⟨rfl, HB5.out⟩
          · exact (HNT.out r5 he).elim
set_option maxRecDepth 100000 in
theorem walk {H : Type} {enc : TypeId × Value → H} (v0 : Value) (d0 : DataW H) (p0 : List MemPlace) (base0 : Nat) (a1 : Int) (a2 : Int) (w : World) (hv0 : Value.okWide Tryz.prog w .any base0 24 v0) (w0 : DataW.Trod enc Tryz.prog w 0 (fun _ => true) true 24 v0 d0 p0) (hwt0 : ∀ n ∈ d0.weights Tryz.prog 24, n ≤ 140737488351232) (w1 : (Lit.int .i64 a1).wf = true) (w2 : (Lit.int .u32 a2).wf = true) :
    Calls Tryz.prog 3 #[v0, .int .i64 a1, .int .u32 a2] w fun e w' => e = .returned (.bool true) ∧ Below w.heap.size w w' := by
  obtain ⟨u0, l0, vs0, rfl, hs0, hi0⟩ := open_bundle hv0 w0 hwt0
  have hy := bounds_u32 w2
  have ha := bounds_i64 w1
  obtain ⟨x, rfl⟩ := Int.eq_ofNat_of_zero_le hy.1
  exact bursts_walk u0 a1 x l0 vs0 w hs0 hi0 ha (by omega)

set_option maxRecDepth 100000 in
theorem contract (H : Type) (enc : TypeId × Value → H) (W : World) (base : Nat) (args : Array Value) (ds gs : List (DataW H)) (before : List MemPlace)
    (hval0 : ∀ (j : Nat) t v, Tryz.f3.params[j]? = some t → args[j]? = some v → Value.okWide Tryz.prog W .any base t v)
    (hW : DataW.Whole enc Tryz.prog Tryz.f3.params.toList Rows.loadBurstsSpec.vars false W args.toList ds gs before)
    (hsz0 : (DataW.weightsEach Tryz.prog (Tryz.f3.params.toList ++ Rows.loadBurstsSpec.plain.varTypes Tryz.prog) (ds ++ gs)).all (· ≤ reachBytes) = true) :
    Calls Tryz.prog 3 args W fun e W' => ∃ v, e = .returned v ∧ Rows.loadBurstsSpec.post enc Tryz.prog Tryz.f3 false true false false W args v W' := by
  have hval : ∀ (j : Nat) t v, Tryz.f3.params[j]? = some t → args[j]? = some v → Value.okWide Tryz.prog W .any base t v := hval0
  have hsz : (DataW.weightsEach Tryz.prog (Tryz.f3.params.toList ++ Rows.loadBurstsSpec.plain.varTypes Tryz.prog) (ds ++ gs)).all (· ≤ reachBytes) = true := hsz0
  have hW' := hW
  obtain ⟨p, q, hA0, hV, rfl, hfz, hnd⟩ := hW
  have hA : DataW.TrodAll enc Tryz.prog W 0 (fun _ => true) true Tryz.f3.params.toList args.toList ds p := hA0
  rw [Tryz.params3] at hA hval hsz
  obtain ⟨v0, vs0, d0, ds0, p0, q0, hargs, rfl, rfl, h0, r0⟩ := trodAll_cons hA
  obtain ⟨v1, vs1, d1, ds1, p1, q1, rfl, rfl, rfl, h1, r1⟩ := trodAll_cons r0
  obtain ⟨v2, vs2, d2, ds2, p2, q2, rfl, rfl, rfl, h2, r2⟩ := trodAll_cons r1
  obtain ⟨rfl, rfl, rfl⟩ := trodAll_nil r2
  obtain rfl : args = #[v0, v1, v2] := by cases args; simp_all
  obtain ⟨rfl, rfl⟩ := trodVars_none hV
  have k0 := h0
  have lt0 : ∀ x ∈ p0, x.block < W.heap.size := by obtain ⟨m, hm⟩ := k0; exact DataW.trod_lt m _ _ _ hm
  have hwt0 : ∀ n ∈ d0.weights Tryz.prog 24, n ≤ 140737488351232 := fun n hn => by
    have := of_decide_eq_true (List.all_eq_true.1 hsz _ (DataW.weights_mem_each (j := 0) (t := 24) rfl rfl n hn))
    simpa [reachBytes] using this
  obtain ⟨a1, rfl, rfl, rfl, w1⟩ := open_int Tryz.underlying3 (hval 1 3 v1 rfl rfl) h1
  obtain ⟨a2, rfl, rfl, rfl, w2⟩ := open_int Tryz.underlying25 (hval 2 25 v2 rfl rfl) h2
  clear hA0 hval0
  refine (walk v0 d0 p0 base a1 a2 W (hval 0 24 v0 rfl rfl) h0 hwt0 w1 w2).mono fun e W' ⟨he, bel⟩ => ?_
  subst he
  exact ⟨_, rfl, _, _, _, [], _, [], hW', trodAll_mk1 (shut_bool Tryz.underlying4 _), (trodAll_cons_mk (Below.trod laidOut (by kernel_rfl) (of_decide_eq_true (by kernel_rfl)) k0 bel lt0) (trodAll_cons_mk (shut_int Tryz.underlying3 w1) (trodAll_cons_mk (shut_int Tryz.underlying25 w2) trodAll_mk0))), rfl, bel.frame _, fun h => by cases h⟩

set_option maxRecDepth 100000 in
theorem lifted (os : Os) (started : os.Started) (H : Type) (enc : TypeId × Value → H) :
    ReturnsInHanded {} Tryz.checked os 3 .any (Rows.loadBurstsSpec.pre6 enc Tryz.prog Tryz.f3 Rows.loadBurstsRow.domain false) (Rows.loadBurstsSpec.post enc Tryz.prog Tryz.f3 false true false false) := by
  refine returnsInHanded_of_change_sized (C := Tryz.checked) own started (by kernel_rfl) Tryz.func3
    (ChangeSpec.witness6 (enc := enc) (C := Tryz.checked) false ⟨#[], #[.agg #[.slice none 0 0], .int .i64 0, .int .u32 0], []⟩ 8 (by kernel_rfl) (by kernel_rfl) (by kernel_rfl) (by kernel_rfl)) ?_
  intro W base args ds gs before hval hW _ hsz _
  exact contract H enc W base args ds gs before hval hW hsz

theorem over : Rows.loadBurstsRow.holds Tryz.pinned (OpenSpec.ofChange Rows.loadBurstsSpec) :=
  OpenClaim.holds_of_wide 3 Tryz.f3 rfl rfl rfl rfl rfl rfl rfl ⟨rfl, rfl, rfl, rfl, rfl⟩ rfl rfl rfl rfl rfl (by kernel_rfl) Tryz.func3 (by kernel_rfl)
    (of_decide_eq_true (by kernel_rfl)) (by unfold Func.isWrapper; first | (rw [if_pos (by decide +kernel)]; kernel_rfl) | (rw [if_neg (by decide +kernel)]; exact ⟨rfl, rfl⟩))
    (fun os started H enc _ => lifted os started H enc)

/-- The statement. -/
theorem proved : Rows.LoadBurstsSaid := over
#print axioms proved
end Go.Proofs.YthdldooilcbmlaaGreat.loadBursts
