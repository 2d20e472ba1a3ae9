/-
  The law AliasQuotes answers true for every two texts. Condition: together they hold at most 1048576 letters; unicode/utf8's tables lie as their initialisers lay them.
-/
import Derived.Test.YtkfofdmcggoonaaDoorRows
import Derived.Test.YtkfofdmcggoonaaDoorCards
import Derived.Test.YtkfofdmcggoonaaDoorTie
import Derived.Deep.DeepHandedRow
import Derived.Deep.DeepWitnessRowRef
import Derived.Lib.LaidIn
import Derived.Lib.LaidU8
import Derived.PinnedBridge
import Derived.Test.YtkfofdmcggoonaaDoorAliasTarget
import Derived.Test.YtkfofdmcggoonaaDoorAliasQuo
import Derived.Test.YtkfofdmcggoonaaDoorQuoLay
import Derived.Lib.IndexAny
import Derived.WalkKit
import Derived.Outline
import Derived.ProofKit
import Derived.OpenShut
import Derived.ShutString
import Derived.ChangeOld
import Derived.Below
import Derived.Deep.CondSized
namespace Go.Proofs.YtkfofdmcggoonaaDoor.aliasQuotes
open Go.ChangeShapes Go.WideShapes Go.ChangeAt Go.RowKit
open Go.ChangeMaps (open_string shut_string)
set_option linter.unusedVariables false

theorem own : ownKnob Tryd.prog.godebug = none := by kernel_rfl
theorem laidOut : laidOutB Tryd.prog = true := by kernel_rfl

theorem target_bad {g s t : ByteArray} {x y : Int} (h : targetM g s = (t, x, y)) (hx : x ≠ 0) : t = ByteArray.empty := by
  unfold targetM at h
  split at h
  · exact (congrArg Prod.fst h).symm
  · exact (congrArg Prod.fst h).symm
  · split at h
    · exact (congrArg Prod.fst h).symm
    · split at h
      · exact (congrArg Prod.fst h).symm
      · split at h
        · exact absurd (congrArg (fun z : ByteArray × Int × Int => z.2.1) h).symm hx
        · exact (congrArg Prod.fst h).symm
theorem noB_of {s : ByteArray} {c : UInt8} (h : decide (0 ≤ Lib.indexByte s.data.toList c) = false) : NoB s c := by
  rw [← Lib.contains_iff_indexByte] at h
  intro i hi e
  have : s.data.toList.contains c = true := by
    rw [List.contains_iff_mem]
    rw [← e]
    have hi2 : i < s.data.toList.length := by rw [← Lib.size_eq]; exact hi
    exact List.mem_of_getElem? (List.getElem?_eq_getElem hi2)
  rw [this] at h
  cases h
theorem sw_map {s : ByteArray} (h : OkS s 0) : (⟨(Lib.mapD swR s.data.toList).toArray⟩ : ByteArray) = swS s := by
  have h2 : OkL s.data.toList := by simpa [OkS] using h
  rw [mapD_sw h2]
  apply ByteArray.ext
  apply Array.toList_inj.1
  rw [swS_list]
theorem mapX : Go.Proofs.Builder.Extra Tryd.prog mapQ_ren := {
  sizeBuilder := by kernel_rfl
  liesBuilder := by kernel_rfl
  t5 := Tryd.underlying5
  a5 := Tryd.isAgg5
  z5 := Tryd.sizeOf5
  v5 := Tryd.zeroValue5
  infoByte := by kernel_rfl
  cellsByte := by kernel_rfl
  sizeByte := by kernel_rfl
  neB5 := by decide }
theorem quote_fn (x : Nat) (W : World) : Calls Tryd.prog 19 #[.int .i32 (x : Int)] W fun e w' => e = .returned (.int .i32 (swR (x : Int))) ∧ ∃ q, w' = W.drewN q := by
  by_cases h1 : (x : Int) = 39
  · have h2 : swR (x : Int) = 34 := by simp [swR, h1]
    rw [h2]
    have h3 : ((x : Int) == 39) = true := by simpa using h1
    go_enter Tryd.func19, Tryd.ntmps19
    go_wp2
    go_ret
    exact ⟨rfl, 0, rfl⟩
  · have h3 : ((x : Int) == 39) = false := by simpa using h1
    by_cases h4 : (x : Int) = 34
    · have h2 : swR (x : Int) = 39 := by simp [swR, h4]
      rw [h2]
      have h5 : ((x : Int) == 34) = true := by simpa using h4
      go_enter Tryd.func19, Tryd.ntmps19
      go_wp2
      go_ret
      exact ⟨rfl, 0, rfl⟩
    · have h2 : swR (x : Int) = (x : Int) := by simp [swR, h1, h4]
      rw [h2]
      have h5 : ((x : Int) == 34) = false := by simpa using h4
      go_enter Tryd.func19, Tryd.ntmps19
      go_wp2
      go_ret
      exact ⟨rfl, 0, rfl⟩
theorem swR_in (x : Nat) (h : x ≤ 1114111) : 0 ≤ swR (x : Int) ∧ swR (x : Int) ≤ 2147483647 := by
  unfold swR
  split
  · omega
  · split <;> omega
theorem map_any (s : ByteArray) (w : World) (hs : s.size < 35184372088832) (hT : Tabs w) (ho : OkS s 0) :
    Calls Tryd.prog 18 #[.func (.func 19) #[] #[], .string s] w fun e w' => e = .returned (.string (swS s)) ∧ Below w.heap.size w w' :=
  (Any.strings_Map_runes mapQ mapX 19 #[] (enters_of Tryd.func19 (by kernel_rfl) rfl) swR s w hs (fun W x _ _ => quote_fn x W) swR_in hT).mono fun e w' h => by
    rw [sw_map ho] at h
    exact h
theorem cont_any (s : ByteArray) (c : UInt8) (w : World) : Calls Tryd.prog 20 #[.string s, .string ⟨#[c]⟩] w fun e w' => e = .returned (.bool (decide (0 ≤ Lib.indexByte s.data.toList c))) ∧ w' = w := Any.strings_Contains_one contQ s c w
theorem walk (a0 : ByteArray) (a1 : ByteArray) (w : World) (w0 : a0.size ≤ 140737488351232) (w1 : a1.size ≤ 140737488351232) (hT : Tabs w) (h3 : 3 ≤ w.heap.size) (hbulk : (a0.size + 1) + (a1.size + 1) ≤ 1048576) :
    Calls Tryd.prog 7 #[.string a0, .string a1] w fun e w' => e = .returned (.bool true) ∧ Below w.heap.size w w' := by
  have HW := Lib.hid (awakes_any w hT h3)
  have HTG := Lib.hid (fun (t : ByteArray) (ht : t.size = a1.size) (W : World) (hT : Tabs W) (h3 : 3 ≤ W.heap.size) => target_any a0 t W (by omega) (by omega) hT h3)
  have HCQ := Lib.hid (cont_any a1 39)
  have hfl := fun (x y : Int) (W : World) => (show (Instr.field 25 (.agg #[.int .i64 x, .int .i64 y]) 0).run Tryd.prog W = .ok (.int .i64 x) W from by kernel_rfl)
  have HCD := Lib.hid (cont_any a1 34)
  go_enter Tryd.func7, Tryd.ntmps7
  go_wp2_with fail
  refine HW.out.mono ?_
  rintro en w1 ⟨rfl, hB1⟩
  have HB1 := Lib.hid hB1
  have HT1 := Lib.hid (tabs_below hT hB1 h3)
  clear hB1
  go_wp2_with fail
  refine (HTG.out a1 rfl w1 HT1.out (Nat.le_trans h3 HB1.out.size)).mono ?_
  intro en w2 h
  obtain ⟨t, x, y, hR⟩ : ∃ t x y, targetM a0 a1 = (t, x, y) := ⟨_, _, _, rfl⟩
  have HR := Lib.hid hR
  clear hR
  obtain ⟨rfl, hB2⟩ := target_says h HR.out
  have HB2 := Lib.hid (HB1.out.trans (hB2.mono HB1.out.size))
  clear hB2 HW h
  by_cases hx : x = 0
  · subst hx
    obtain ⟨hok, hrt, rfl⟩ := target_valid HR.out
    have HM := Lib.hid (fun W (h : Tabs W) => map_any a1 W (by omega) h hok)
    have HB3 := Lib.hid (HB2.out.alloc HB2.out.size (.cells #[.int .i64 0, .int .i64 0] 25))
    have HT3 := Lib.hid (tabs_below hT HB3.out h3)
    clear hok
    have hts : t.size ≤ 512 := by
      obtain ⟨l, hl⟩ := rightB_ok.1 hrt
      exact (parseM_small hl).2.2.1
    have he0 : (errOf t).1 = 0 := by
      have h0 : ((errOf t).1 == 0) = true := hrt
      simpa using h0
    have HCK := Lib.hid (show ∀ W, Calls Tryd.prog 21 #[.string t] W (fun en w' => (∃ y, en = .returned (.agg #[.int .i64 0, .int .i64 y])) ∧ Below W.heap.size W w') from fun W => (pcheck_any t W (by omega)).mono fun en w' h => ⟨⟨(errOf t).2, by rw [h.1, ← he0]⟩, h.2⟩)
    have htt : (t.toList == t.toList) = true := by simp
    clear he0 hts
    go_upto_region 6 with (fail)
    generalize w2.alloc (.cells #[.int .i64 0, .int .i64 0] 25) = w3 at *
    go_upto_region 7 with (go_at_call 18; go_loud (refine (HM.out _ HT3.out).mono ?_; rintro en w4 ⟨rfl, hb4⟩; have HB4 := Lib.hid (HB3.out.trans (hb4.mono HB3.out.size)); clear hb4))
    have HT4 := Lib.hid (tabs_below hT HB4.out h3)
    have HOQ := Lib.hid (fun (h : decide (0 ≤ Lib.indexByte a1.data.toList 34) = false ∨ decide (0 ≤ Lib.indexByte a1.data.toList 39) = false) => show targetM a0 (swS a1) = (t, 0, 0) from (target_sw a0 (h.imp noB_of noB_of)).trans HR.out)
    have HTS := Lib.hid (HTG.out (swS a1) (swS_size a1))
    generalize decide (0 ≤ Lib.indexByte a1.data.toList 34) = q2 at *
    generalize decide (0 ≤ Lib.indexByte a1.data.toList 39) = q1 at *
    generalize swS a1 = S at *
    by_cases hbo : q1 = true ∧ q2 = true
    · obtain ⟨rfl, rfl⟩ := hbo
      set_option maxRecDepth 100000 in
      go_wp2_with (first
        | (go_at_call_of 20 (#[Value.string a1, Value.string ⟨#[39]⟩]); go_loud (refine (HCQ.out _).mono ?_; rintro en w5 ⟨rfl, rfl⟩))
        | (go_at_call_of 20 (#[Value.string a1, Value.string ⟨#[34]⟩]); go_loud (refine (HCD.out _).mono ?_; rintro en w6 ⟨rfl, rfl⟩))
        | (go_at_call 21; go_loud (refine (HCK.out _).mono ?_; rintro en w7 ⟨⟨y7, rfl⟩, hb7⟩; have HB7 := Lib.hid (HB4.out.trans (hb7.mono HB4.out.size)); clear hb7)))
      go_ret
      exact ⟨rfl, HB7.out⟩
    · have HTM := Lib.hid (HOQ.out (by
        cases q1
        · exact .inr rfl
        · cases q2
          · exact .inl rfl
          · exact absurd ⟨rfl, rfl⟩ hbo))
      cases q1
      rotate_left
      cases q2
      rotate_left
      · exact absurd ⟨rfl, rfl⟩ hbo
      all_goals
        clear hbo
        go_upto_region 9 with (first
          | (go_at_call_of 20 (#[Value.string a1, Value.string ⟨#[39]⟩]); go_loud (refine (HCQ.out _).mono ?_; rintro en w5 ⟨rfl, rfl⟩))
          | (go_at_call_of 20 (#[Value.string a1, Value.string ⟨#[34]⟩]); go_loud (refine (HCD.out _).mono ?_; rintro en w6 ⟨rfl, rfl⟩)))
        go_upto_region 10 with (go_at_call 9; go_loud (refine (HTS.out _ HT4.out (Nat.le_trans h3 HB4.out.size)).mono ?_; intro en w7 h; obtain ⟨rfl, hb7⟩ := target_says h HTM.out; have HB7 := Lib.hid (HB4.out.trans (hb7.mono HB4.out.size)); clear h hb7))
        have HN8 := Lib.hid (Blk.new w7 25 #[.int .i64 0, .int .i64 0])
        have HB8 := Lib.hid (HB7.out.alloc HB7.out.size (.cells #[.int .i64 0, .int .i64 0] 25))
        generalize w7.alloc (.cells #[.int .i64 0, .int .i64 0] 25) = w8 at *
        set_option maxRecDepth 100000 in
        go_wp2_with (go_at_call 21; go_loud (refine (HCK.out _).mono ?_; rintro en w9 ⟨⟨y9, rfl⟩, hb9⟩; have HB9 := Lib.hid (HB8.out.trans (hb9.mono HB8.out.size)); have k0 : w9.cell? ⟨w7.heap.size, 0, none⟩ = some (.int .i64 0) := (HN8.out.below hb9 HN8.out.lt).cell 0; have k1 : w9.cell? ⟨w7.heap.size, 1, none⟩ = some (.int .i64 0) := (HN8.out.below hb9 HN8.out.lt).cell 1; clear hb9))
        go_ret
        exact ⟨rfl, HB9.out⟩
  · have HE := Lib.hid (target_bad HR.out hx)
    have hx2 : (x == 0) = false := by simpa using hx
    rw [HE.out]
    have HB3 := Lib.hid (HB2.out.alloc HB2.out.size (.cells #[.int .i64 x, .int .i64 y] 25))
    go_wp2
    go_ret
    exact ⟨rfl, HB3.out⟩

/-- What the row's list gives. -/
theorem laidTabs {W : World} (hL : laidMetH Tryd.prog Rows.aliasQuotesUptoRow.laid W) : Tabs W := by
  have h1 := Lib.laidMet.reads hL (.head _)
  have h2 := Lib.laidMet.reads hL (.tail _ (.head _))
  exact utf8Tabs_of_reads decS ⟨by kernel_rfl, by kernel_rfl, by kernel_rfl, by kernel_rfl, by kernel_rfl, by kernel_rfl, by kernel_rfl⟩ (by rw [← Pinned.utf8First_eq]; exact h2) (by rw [show Lib.acceptData = Rows.laid_unicode_utf8_acceptRanges from by kernel_rfl]; exact h1)

set_option maxRecDepth 100000 in
theorem contract (H : Type) (enc : TypeId × Value → H) (W : World) (base : Nat) (args : Array Value) (ds gs : List (DataW H)) (before : List MemPlace)
    (hval0 : ∀ (j : Nat) t v, Tryd.f7.params[j]? = some t → args[j]? = some v → Value.okWide Tryd.prog W .any base t v)
    (hW : DataW.Whole enc Tryd.prog Tryd.f7.params.toList Rows.aliasQuotesSpec.vars false W args.toList ds gs before)
    (hsz0 : (DataW.weightsEach Tryd.prog (Tryd.f7.params.toList ++ Rows.aliasQuotesSpec.plain.varTypes Tryd.prog) (ds ++ gs)).all (· ≤ reachBytes) = true) (hL : laidMetH Tryd.prog Rows.aliasQuotesUptoRow.laid W) (hk : Rows.uptoSmall H (ds ++ gs) = true) :
    Calls Tryd.prog 7 args W fun e W' => ∃ v, e = .returned v ∧ Rows.aliasQuotesSpec.post enc Tryd.prog Tryd.f7 false true false false W args v W' := by
  have hval : ∀ (j : Nat) t v, Tryd.f7.params[j]? = some t → args[j]? = some v → Value.okWide Tryd.prog W .any base t v := hval0
  have hsz : (DataW.weightsEach Tryd.prog (Tryd.f7.params.toList ++ Rows.aliasQuotesSpec.plain.varTypes Tryd.prog) (ds ++ gs)).all (· ≤ reachBytes) = true := hsz0
  have hW' := hW
  obtain ⟨p, q, hA0, hV, rfl, hfz, hnd⟩ := hW
  have hA : DataW.TrodAll enc Tryd.prog W 0 (fun _ => true) true Tryd.f7.params.toList args.toList ds p := hA0
  rw [Tryd.params7] at hA hval hsz
  obtain ⟨v0, vs0, d0, ds0, p0, q0, hargs, rfl, rfl, h0, r0⟩ := trodAll_cons hA
  obtain ⟨v1, vs1, d1, ds1, p1, q1, rfl, rfl, rfl, h1, r1⟩ := trodAll_cons r0
  obtain ⟨rfl, rfl, rfl⟩ := trodAll_nil r1
  obtain rfl : args = #[v0, v1] := by cases args; simp_all
  obtain ⟨rfl, rfl⟩ := trodVars_none hV
  obtain ⟨a0, rfl, rfl, rfl, wm0⟩ := open_string Tryd.underlying9 (hval 0 9 v0 rfl rfl) h0
  have w0 : a0.size ≤ 140737488351232 := by
    have := sized_string hsz (j := 0) (t := 9) rfl rfl
    simpa [reachBytes] using this
  obtain ⟨a1, rfl, rfl, rfl, wm1⟩ := open_string Tryd.underlying9 (hval 1 9 v1 rfl rfl) h1
  have w1 : a1.size ≤ 140737488351232 := by
    have := sized_string hsz (j := 1) (t := 9) rfl rfl
    simpa [reachBytes] using this
  have hbulk : (a0.size + 1) + (a1.size + 1) ≤ 1048576 := by
    have hb := of_decide_eq_true hk
    simp only [List.append_nil, Rows.uptoBulkAll] at hb
    try simp only [Rows.uptoBulk, Array.length_toList, ByteArray.size_data] at hb
    omega
  clear hA0 hval0
  refine (walk a0 a1 W w0 w1 (laidTabs hL) (tabs3 (laidTabs hL)) hbulk).mono fun e W' ⟨he, bel⟩ => ?_
  subst he
  exact ⟨_, rfl, _, _, _, [], _, [], hW', trodAll_mk1 (shut_bool Tryd.underlying4 _), (trodAll_cons_mk (shut_string Tryd.underlying9 wm0) (trodAll_cons_mk (shut_string Tryd.underlying9 wm1) trodAll_mk0)), rfl, bel.frame _, fun h => by cases h⟩

/-- The witness: the settled world, the two tables holding what their initialisers lay. -/
noncomputable def laidWorld (os : Os) : World :=
  let w0 := World.holding Tryd.prog os ⟨#[], #[], []⟩
  let put (h : Array Obj) (g : Nat) (cs : Array Value) : Array Obj := h.modify g fun
    | .cells _ t frozen => .cells cs t frozen
    | o => o
  let h1 := put w0.heap 1 (Lib.firstTab.map fun z => Value.int .u8 z).toArray
  let h2 := put h1 2 ((List.range 16).flatMap fun i => [Value.int .u8 (Lib.accLo i), Value.int .u8 (Lib.accHi i)]).toArray
  { w0 with heap := h2 }
theorem laid_met (os : Os) : laidMet Tryd.prog Rows.aliasQuotesUptoRow.laid ((laidWorld os).forCall (fun _ _ => 0) ⟨#[], #[.string ByteArray.empty, .string ByteArray.empty], []⟩).memory := by
  have h : laidMet Tryd.prog [("unicode/utf8.acceptRanges", Lib.acceptData), ("unicode/utf8.first", Lib.firstData)] ((laidWorld os).forCall (fun _ _ => 0) ⟨#[], #[.string ByteArray.empty, .string ByteArray.empty], []⟩).memory :=
    (LaidIn.of_run (l := [("unicode/utf8.acceptRanges", Lib.acceptData), ("unicode/utf8.first", Lib.firstData)]) [2, 1] 8 (by kernel_rfl) (by kernel_rfl) (by kernel_rfl) (by kernel_rfl)).met
  have e : Rows.aliasQuotesUptoRow.laid = [("unicode/utf8.acceptRanges", Lib.acceptData), ("unicode/utf8.first", Lib.firstData)] := by
    rw [← Pinned.utf8First_eq, show Lib.acceptData = Rows.laid_unicode_utf8_acceptRanges from by kernel_rfl]
    rfl
  rw [e]
  exact h
theorem witness_row (os : Os) {H : Type} (enc : TypeId × Value → H) :
    (Rows.OpenSpec.upto Rows.aliasQuotesSpec).preRow enc Tryd.prog Tryd.f7 Rows.aliasQuotesUptoRow.domain false Rows.aliasQuotesUptoRow.laid ((laidWorld os).forCall (fun _ _ => 0) ⟨#[], #[.string ByteArray.empty, .string ByteArray.empty], []⟩).memory #[.string ByteArray.empty, .string ByteArray.empty] := by
  have hw : (DataW.whole enc Tryd.prog ((laidWorld os).forCall (fun _ _ => 0) ⟨#[], #[.string ByteArray.empty, .string ByteArray.empty], []⟩).memory Tryd.f7.params.toList (Rows.OpenSpec.upto Rows.aliasQuotesSpec).vars false (#[.string ByteArray.empty, .string ByteArray.empty] : Array Value).toList 8).map (fun x => (x.1, x.2.1)) =
      some ([.lit (.string []), .lit (.string [])], []) := by kernel_rfl
  obtain ⟨⟨x1, x2, x3⟩, hx, hx1⟩ := Option.map_eq_some_iff.1 hw
  simp only [Prod.mk.injEq] at hx1
  obtain ⟨rfl, rfl⟩ := hx1
  exact OpenSpec.preRow_of_cond 8 hx (by kernel_rfl) (fun k hk => by cases hk; kernel_rfl) (by kernel_rfl) (laid_met os)
set_option maxRecDepth 100000 in
theorem lifted (os : Os) (started : os.Started) (H : Type) (enc : TypeId × Value → H) (F : Stop.Interp) :
    ReturnsInHanded {} Tryd.checked os 7 .any ((Rows.OpenSpec.upto Rows.aliasQuotesSpec).preRow enc Tryd.prog Tryd.f7 Rows.aliasQuotesUptoRow.domain false Rows.aliasQuotesUptoRow.laid) (((Rows.OpenSpec.upto Rows.aliasQuotesSpec).at F).post enc Tryd.prog Tryd.f7 false true false false) := by
  refine returnsInHanded_of_row (C := Tryd.checked) (s := Rows.OpenSpec.upto Rows.aliasQuotesSpec) own started (by kernel_rfl) Tryd.func7
    (witness_row_atRef (enc := enc) (C := Tryd.checked) false (laidWorld os) #[.string ByteArray.empty, .string ByteArray.empty] rfl (by kernel_rfl) (by kernel_rfl) (by kernel_rfl) (witness_row os enc)) ?_
  intro W base args ds gs before hval hW _ hk hsz hL _ _
  exact contract H enc W base args ds gs before hval hW hsz hL (hk _ rfl)
theorem said : Rows.aliasQuotesUptoRow.holds Tryd.pinned (Rows.OpenSpec.upto Rows.aliasQuotesSpec) :=
  OpenClaim.holds_of_cond 7 Tryd.f7 rfl rfl rfl rfl rfl rfl rfl ⟨rfl, rfl, rfl, rfl, rfl⟩ rfl rfl rfl rfl rfl (by kernel_rfl) Tryd.func7 (by kernel_rfl)
    (of_decide_eq_true (by kernel_rfl)) (by unfold Func.isWrapper; first | (rw [if_pos (by decide +kernel)]; kernel_rfl) | (rw [if_neg (by decide +kernel)]; exact ⟨rfl, rfl⟩))
    (fun os started H enc _ F => by rw [OpenClaim.pre_eq_preRow]; exact lifted os started H enc F)
/-- No parameter wants a stand-in; the program's own looks are off. -/
theorem plain (f : FuncId) (fn : Func) (hf : Tryd.pinned.checked.prog.funcNamed "vernacular/vernacularlaw13.AliasQuotes" = some f) (hfn : Tryd.pinned.checked.prog.funcs[f]? = some fn) :
    false = Tryd.pinned.checked.prog.looks [] ∧ ∀ (j : Nat) t, fn.params[j]? = some t → Tryd.pinned.checked.prog.wantsStandIn t = false := by
  obtain rfl : f = 7 := Option.some.inj ((show Tryd.prog.funcNamed "vernacular/vernacularlaw13.AliasQuotes" = some 7 by kernel_rfl).symm.trans hf) |>.symm
  obtain rfl : fn = Tryd.f7 := (Option.some.inj (Tryd.func7.symm.trans hfn)).symm
  refine ⟨by kernel_rfl, fun j t ht => ?_⟩
  rw [Tryd.params7] at ht
  have hm := Array.mem_of_getElem? ht
  have hall : (#[9, 9] : Array TypeId).all (fun t => Tryd.prog.wantsStandIn t == false) = true := by kernel_rfl
  have := Array.all_eq_true_iff_forall_mem.1 hall t hm
  exact eq_of_beq this
theorem over : Rows.AliasQuotesUptoCardSaid :=
  Claim7.holds_tied_plain_at .later [] _ _ _ _ said (fun _ h => by cases h) (by kernel_rfl) (fun _ h => by cases h) aliasQuotesUpto_row_tie rfl ⟨rfl, rfl⟩ (by kernel_rfl) rfl plain (by kernel_rfl)

/-- The statement. -/
theorem proved : Rows.AliasQuotesUptoCardSaid := over
#print axioms proved
end Go.Proofs.YtkfofdmcggoonaaDoor.aliasQuotes
