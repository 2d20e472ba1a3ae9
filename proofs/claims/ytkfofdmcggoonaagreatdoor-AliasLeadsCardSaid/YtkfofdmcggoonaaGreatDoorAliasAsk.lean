/-
  The walks of what asks aliases: whether one follows another, find, Group, Lead, and a copy of pairs. Condition: paths are within the reach, and the aliases' are right; at most 2^42 aliases.
-/
import Derived.Test.YtkfofdmcggoonaaGreatDoorAliasRing
import Derived.Test.YtkfofdmcggoonaaGreatDoorAliasTargetSt
set_option linter.unusedVariables false
set_option linter.unusedSimpArgs false
namespace Go.Proofs.YtkfofdmcggoonaaGreatDoor
open Go.RowKit

theorem in_says (a b : ByteArray) (w : World) (ha : a.size ≤ 140737488355328) (hb : b.size ≤ 140737488355328) :
    Calls Tryz.prog 41 #[.string a, .string b] w fun en w' => en = .returned (.bool (inB a b)) ∧ Below w.heap.size w w' := in_any a b w ha hb
theorem right_size {a : ByteArray} (h : rightB a = true) : a.size ≤ 512 := by
  obtain ⟨l, hl⟩ := rightB_ok.1 h
  exact (parseM_small hl).2.2.1
set_option maxHeartbeats 1000000 in
theorem follows_any (nx one : PKey) (w : World) (h1 : nx.1.size ≤ 140737488355328) (h2 : one.2.size ≤ 140737488355328) :
    Calls Tryz.prog 19 #[.agg #[.string nx.1, .string nx.2], .agg #[.string one.1, .string one.2]] w fun e w' => e = .returned (.bool (folB nx one)) ∧ Below w.heap.size w w' := by
  obtain ⟨nk, nv⟩ := nx
  obtain ⟨ok, ov⟩ := one
  simp only at h1 h2 ⊢
  have HI1 := Lib.hid (fun W => in_says ov nk W h2 h1)
  have HI2 := Lib.hid (fun W => in_says nk ov W h1 h2)
  have HF := Lib.hid (show folB (nk, nv) (ok, ov) = (inB ov nk || inB nk ov) from rfl)
  generalize folB (nk, nv) (ok, ov) = F at *
  have hb2 : Below w.heap.size w ((w.alloc (.cells #[.string nk, .string nv] 33)).alloc (.cells #[.string ok, .string ov] 33)) := ((Below.refl _ _).alloc (Nat.le_refl _) _).alloc (by simp) _
  have hx1 : Blk ((w.alloc (.cells #[.string nk, .string nv] 33)).alloc (.cells #[.string ok, .string ov] 33)) w.heap.size 33 #[.string nk, .string nv] := (Blk.new w _ _).alloc _
  have hx2 := Blk.new (w.alloc (.cells #[.string nk, .string nv] 33)) 33 #[.string ok, .string ov]
  rw [World.size_alloc] at hx2
  have HX := Lib.hid (And.intro hb2 (And.intro hx1 hx2))
  clear hb2 hx1 hx2
  go_enter Tryz.func19, Tryz.ntmps19
  go_wp2_with fail
  generalize (w.alloc (.cells #[.string nk, .string nv] 33)).alloc (.cells #[.string ok, .string ov] 33) = w2 at *
  refine (HI1.out w2).mono ?_
  rintro en w3 ⟨rfl, hb3⟩
  have HB3 := Lib.hid (HX.out.1.trans (hb3.mono HX.out.1.size))
  have k1 : w3.cell? ⟨w.heap.size, 0, none⟩ = some (.string nk) := (HX.out.2.1.below hb3 HX.out.2.1.lt).cell 0
  have k2 : w3.cell? ⟨w.heap.size + 1, 1, none⟩ = some (.string ov) := (HX.out.2.2.below hb3 HX.out.2.2.lt).cell 1
  clear hb3
  cases hi : inB ov nk
  · have HF2 := Lib.hid (show F = inB nk ov by rw [HF.out, hi]; rfl)
    clear hi
    go_wp2_with fail
    refine (HI2.out w3).mono ?_
    rintro en w4 ⟨rfl, hb4⟩
    rw [← HF2.out]
    have HB4 := Lib.hid (HB3.out.trans (hb4.mono HB3.out.size))
    clear hb4
    go_wp2
    go_ret
    exact ⟨rfl, HB4.out⟩
  · have HF2 := Lib.hid (show F = true by rw [HF.out, hi]; rfl)
    clear hi
    go_wp2
    go_ret
    exact ⟨by rw [HF2.out]; rfl, HB3.out⟩
/-- Aliases. -/
def ALS (w : World) (v : Value) (L : List PKey) : Prop := ∃ (ga : Nat) (kv : Value), v = .pointer (some ⟨ga, 0, none⟩) ∧ Blk w ga 55 #[kv] ∧ KeysAt w w.heap.size kv L
theorem ALS.on {w w' : World} {v : Value} {L : List PKey} (h : ALS w v L) (hb : Below w.heap.size w w') : ALS w' v L := by
  obtain ⟨ga, kv, hv, h1, h2⟩ := h
  exact ⟨ga, kv, hv, h1.below hb h1.lt, h2.more hb hb.size⟩
def bestK (o : Option PKey) : PKey := o.getD (ByteArray.empty, ByteArray.empty)
def AFindPost (L : List PKey) (p : ByteArray) (w : World) (en : Ending) (w' : World) : Prop := Below w.heap.size w w' ∧ ∃ o, BestIs L p o ∧ en = .returned (.tuple #[.agg #[.string (bestK o).1, .string (bestK o).2], .bool o.isSome])
theorem pair_size : (Tryz.prog.info? 33).map (·.size) = some 2 := by kernel_rfl
theorem afind_result {tmps : Array Value} {w : World} {r0 : Nat} {x y : ByteArray} {v : Value} (hB : Blk w r0 33 #[.string x, .string y]) (hp : tmps.getD 4 undef = .pointer (some ⟨r0, 0, none⟩)) (hu : tmps.getD 5 undef = v) :
    (results Tryz.f27 tmps).run Tryz.prog w = .ok (.tuple #[.agg #[.string x, .string y], v]) w :=
  results_row_tmp Tryz.results27 tmps w r0 33 #[.string x, .string y] _ hp hB Tryz.underlying33 rfl pair_size hu
/-- Where find's loop is. -/
def FindAt (L : List PKey) (p : ByteArray) (r : Nat) (w : World) (i : Nat) (o : Option PKey) (kk vv : ByteArray) (wr : World) : Prop :=
  (kk, vv) = bestK o ∧ BestIs (L.take i) p o ∧ Blk wr r 33 #[.string kk, .string vv] ∧ Below r w wr
set_option maxHeartbeats 4000000 in
theorem afind_any (v : Value) (L : List PKey) (p : ByteArray) (w : World) (h : ALS w v L) (hF : ∀ x ∈ L, rightB x.1 = true) (hp : p.size ≤ 140737488355328) (hn : L.length ≤ 8796093022208) :
    Calls Tryz.prog 27 #[v, .string p] w (AFindPost L p w) := by
  obtain ⟨ga, kv, rfl, hG, A, c, rfl, hc1, hc2, hR⟩ := h
  obtain ⟨r, hr⟩ : ∃ r, r = w.heap.size := ⟨_, rfl⟩
  have HR := Lib.hid hr
  have HRD := Lib.hid hR
  have HF := Lib.hid hF
  generalize hN : L.length = N at *
  have HN := Lib.hid hN
  have hn1 : (N : Int) ≤ 8796093022208 := by omega
  have g0 : w.cell? ⟨ga, 0, none⟩ = some (.slice A N c) := hG.cell 0
  have hga := hG.lt
  clear hr hR hF hN hG
  go_enter Tryz.func27, Tryz.ntmps27
  go_wp2
  have HA0 := Lib.hid (show FindAt L p r w 0 none ⟨#[]⟩ ⟨#[]⟩ (w.alloc (.cells #[.string ⟨#[]⟩, .string ⟨#[]⟩] 33)) from by
    rw [HR.out]
    exact ⟨rfl, best_nil p, Blk.new w _ _, (Below.refl _ _).alloc (Nat.le_refl _) _⟩)
  rw [← HR.out]
  generalize w.alloc (.cells #[.string ⟨#[]⟩, .string ⟨#[]⟩] 33) = w1 at *
  clear g0 hga
  go_loopw [5, 16] (fun okv iv wr => ∃ (i : Nat) (o : Option PKey) (kk vv : ByteArray), iv = .int .i64 (i : Int) ∧ okv = .bool o.isSome ∧ i ≤ N ∧ FindAt L p r w i o kk vv wr) (fun _ iv _ => N - (Lib.intOf iv).toNat)
  case atStart => exact ⟨0, none, _, _, rfl, rfl, Nat.zero_le _, HA0.out⟩
  case round =>
    clear HA0
    obtain ⟨i, o, kk, vv, rfl, rfl, hi, hA⟩ := hrel
    have HA := Lib.hid hA
    have hrl := hA.2.2.1.lt
    clear hA
    by_cases hlt : i < N
    · obtain ⟨x, hx⟩ : ∃ x, L[i]? = some x := ⟨L[i]'(by rw [HN.out]; exact hlt), List.getElem?_eq_getElem _⟩
      have hq : (i : Int) < (N : Int) := by omega
      have HB0 := Lib.hid (show Below w.heap.size w wr from HR.out ▸ HA.out.2.2.2)
      obtain ⟨b, off, rfl, hbo, hcl⟩ := (HRD.out.below HB0.out).spot (by omega) (by omega)
      have hat := pairCells_at L i x hx
      obtain ⟨xk, xv⟩ := x
      have r0 := hcl _ _ hat.1
      have r1 : wr.cell? ⟨b, off + i * 2 + 1, none⟩ = some (.string xv) := hcl _ _ hat.2
      have HX := Lib.hid hx
      have HXR := Lib.hid (HF.out _ (List.mem_of_getElem? hx))
      have hxs : xk.size ≤ 512 := right_size HXR.out
      have HTK := Lib.hid (show L.take (i + 1) = L.take i ++ [(xk, xv)] by rw [List.take_add_one, hx]; rfl)
      have HI1 := Lib.hid (fun W => in_says p xk W hp (by omega))
      have hx1 := Blk.new wr 33 #[.string xk, .string xv]
      have hx2 := HA.out.2.2.1.alloc (.cells #[.string xk, .string xv] 33)
      have hx3 : Below r w (wr.alloc (.cells #[.string xk, .string xv] 33)) := HA.out.2.2.2.alloc (by omega) _
      have HX1 := Lib.hid (And.intro hx1 (And.intro hx2 hx3))
      clear hx hat hcl hx1 hx2 hx3 hbo
      go_wp2_with fail
      clear r0 r1
      generalize wr.alloc (.cells #[.string xk, .string xv] 33) = w2 at *
      refine (HI1.out w2).mono ?_
      rintro en w3 ⟨rfl, hb3⟩
      have HX3 := Lib.hid (show Blk w3 wr.heap.size 33 #[.string xk, .string xv] ∧ Blk w3 r 33 #[.string kk, .string vv] ∧ Below r w w3 from ⟨HX1.out.1.below hb3 HX1.out.1.lt, HX1.out.2.1.below hb3 HX1.out.2.1.lt, HX1.out.2.2.trans (hb3.mono (Nat.le_of_lt HX1.out.2.1.lt))⟩)
      clear hb3 HX1
      cases hpx : inB p xk
      · have HG := Lib.hid (show FindAt L p r w (i + 1) o kk vv w3 from ⟨HA.out.1, by rw [HTK.out]; exact best_skip HA.out.2.1 hpx, HX3.out.2⟩)
        clear hpx
        go_wp2
        go_roundw
        case rel => exact ⟨i + 1, o, kk, vv, by go_num, rfl, hlt, HG.out⟩
        case measure => simp [Lib.intOf]; omega
      · have s0 : w3.cell? ⟨wr.heap.size, 0, none⟩ = some (.string xk) := HX3.out.1.cell 0
        have s1 : w3.cell? ⟨wr.heap.size, 1, none⟩ = some (.string xv) := HX3.out.1.cell 1
        obtain ⟨b0, b1, b2, b3, b4, b5⟩ := HX3.out.2.1.two (.string xk)
        have hne : ¬ r = wr.heap.size := by omega
        cases o with
        | none =>
          have HG := Lib.hid (show FindAt L p r w (i + 1) (some (xk, xv)) xk xv ((w3.setCell ⟨r, 0, none⟩ (.string xk)).setCell ⟨r, 1, none⟩ (.string xv)) from ⟨rfl, by rw [HTK.out]; exact best_first HA.out.2.1 hpx HXR.out, HX3.out.2.1.two_set _ _, (HX3.out.2.2.setCell (p := ⟨r, 0, none⟩) (Nat.le_refl _) _).setCell (p := ⟨r, 1, none⟩) (Nat.le_refl _) _⟩)
          clear hpx
          simp only [Option.isSome_none]
          go_wp2
          go_roundw
          case rel => exact ⟨i + 1, _, xk, xv, by go_num, rfl, hlt, HG.out⟩
          case measure => simp [Lib.intOf]; omega
        | some y =>
          have hy : (kk, vv) = y := HA.out.1
          have hyr := HF.out y (List.mem_of_mem_take HA.out.2.1.1)
          have hys : kk.size ≤ 512 := by
            have := right_size hyr
            rw [← hy] at this
            exact this
          have HI2 := Lib.hid (fun W => in_says xk kk W (by omega) (by omega))
          have HBS := Lib.hid (show BestIs (L.take i) p (some (kk, vv)) from hy ▸ HA.out.2.1)
          clear hyr hys hy
          simp only [Option.isSome_some]
          go_wp2_with fail
          refine (HI2.out w3).mono ?_
          rintro en w4 ⟨rfl, hb4⟩
          have HX4 := Lib.hid (show Blk w4 wr.heap.size 33 #[.string xk, .string xv] ∧ Blk w4 r 33 #[.string kk, .string vv] ∧ Below r w w4 from ⟨HX3.out.1.below hb4 HX3.out.1.lt, HX3.out.2.1.below hb4 HX3.out.2.1.lt, HX3.out.2.2.trans (hb4.mono (Nat.le_of_lt HX3.out.2.1.lt))⟩)
          clear hb4 HX3 s0 s1 b0 b1 b2 b3 b4 b5
          cases hxy : inB xk kk
          · have HG := Lib.hid (show FindAt L p r w (i + 1) (some (kk, vv)) kk vv w4 from ⟨rfl, by rw [HTK.out]; exact best_stay HBS.out hpx hxy, HX4.out.2⟩)
            clear hpx hxy
            go_wp2
            go_roundw
            case rel => exact ⟨i + 1, _, kk, vv, by go_num, rfl, hlt, HG.out⟩
            case measure => simp [Lib.intOf]; omega
          · have s0 : w4.cell? ⟨wr.heap.size, 0, none⟩ = some (.string xk) := HX4.out.1.cell 0
            have s1 : w4.cell? ⟨wr.heap.size, 1, none⟩ = some (.string xv) := HX4.out.1.cell 1
            obtain ⟨b0, b1, b2, b3, b4, b5⟩ := HX4.out.2.1.two (.string xk)
            have HG := Lib.hid (show FindAt L p r w (i + 1) (some (xk, xv)) xk xv ((w4.setCell ⟨r, 0, none⟩ (.string xk)).setCell ⟨r, 1, none⟩ (.string xv)) from ⟨rfl, by rw [HTK.out]; exact best_turn HBS.out hpx HXR.out hxy, HX4.out.2.1.two_set _ _, (HX4.out.2.2.setCell (p := ⟨r, 0, none⟩) (Nat.le_refl _) _).setCell (p := ⟨r, 1, none⟩) (Nat.le_refl _) _⟩)
            clear hpx hxy
            go_wp2
            go_roundw
            case rel => exact ⟨i + 1, _, xk, xv, by go_num, rfl, hlt, HG.out⟩
            case measure => simp [Lib.intOf]; omega
    · obtain rfl : i = N := by omega
      have hq : ¬ (i : Int) < (i : Int) := by omega
      have HA2 := Lib.hid (show FindAt L p r w L.length o kk vv wr from HN.out ▸ HA.out)
      obtain ⟨b0, b1, b2, b3, b4, b5⟩ := HA.out.2.2.1.two (.string kk)
      clear hlt
      go_wp2
      (try simp only [Exit.inBlock, Exit.then])
      refine bodyPost_ret (afind_result (HA2.out.2.2.1.two_set _ _) rfl rfl) rfl ?_
      have h1 := HA2.out.2.1
      rw [List.take_length] at h1
      refine ⟨HR.out ▸ ((HA2.out.2.2.2.setCell (p := ⟨r, 0, none⟩) (Nat.le_refl _) _).setCell (p := ⟨r, 1, none⟩) (Nat.le_refl _) _), o, h1, ?_⟩
      rw [← HA2.out.1]
      rfl
end Go.Proofs.YtkfofdmcggoonaaGreatDoor
