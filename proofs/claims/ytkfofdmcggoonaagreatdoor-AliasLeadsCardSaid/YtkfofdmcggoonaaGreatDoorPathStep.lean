/-
  The walk of (*path.reader).step. Condition: the string is not long (path.Parse refuses it else).
-/
import Derived.Test.YtkfofdmcggoonaaGreatDoorPathVal
import Derived.Laws.ResultCell
import Derived.Laws.Cover1
import Derived.Deep.RegionWith
set_option linter.unusedVariables false
set_option linter.unusedSimpArgs false
namespace Go.Proofs.YtkfofdmcggoonaaGreatDoor
open Go.RowKit

theorem name_any (g at_ : Nat) (s : ByteArray) (e a : Int) (w : World) (h : PR w g s at_ e a) (hle : at_ ≤ s.size) (hs : s.size ≤ 140737488355328) :
    Calls Tryz.prog 86 #[.pointer (some ⟨g, 0, none⟩)] w (NamePost g at_ s e a w) := by
  by_cases hlt : at_ < s.size
  · cases hst : startB s[at_]
    · exact (name_nostart g at_ s e a w h hlt hst).mono fun _ _ h => .inl h
    · exact name_go g at_ s e a w h hlt hst hs
  · exact (name_short g at_ s e a w h hle hlt).mono fun _ _ h => .inl h
theorem next_any (g at_ : Nat) (s : ByteArray) (e a : Int) (b : UInt8) (w : World) (h : PR w g s at_ e a) (hs : s.size ≤ 140737488355328) (B : Bool) (hb : standsB s at_ b = B) :
    Calls Tryz.prog 60 #[.pointer (some ⟨g, 0, none⟩), .int .u8 (b.toNat : Int)] w fun en w' => en = .returned (.bool B) ∧ PR w' g s (if B then at_ + 1 else at_) e a ∧ Only g w w' := by
  cases B
  · exact next_no g at_ s e a b w h hs hb
  · exact next_yes g at_ s e a b w h hs hb

theorem wp_skip_seq {P : Program} {a : Act} {w : World} {Q : Exit → Act → World → Prop} {c : Code} (h : c.wp P Q a w) : (Code.seq .skip c).wp P Q a w := wp_seq (wp_skip h)
theorem wp_scope_enter {P : Program} {a : Act} {w : World} {Q : Exit → Act → World → Prop} {c rest : Code} (l : Nat) (J : Act → World → Prop) (μ : Act → World → Nat) (hf : findLabel c l = some (.seq .skip rest))
    (pass : ∀ a w, J a w → rest.wp P (Exit.jump l (fun a' w' => J a' w' ∧ μ a' w' < μ a w) Q) a w)
    (first : (∀ a w, J a w → rest.wp P (Exit.jump l J Q) a w) → c.wp P (Exit.jump l J Q) a w) : (Code.scope c).wp P Q a w :=
  wp_scope_jumps l J μ hf (first fun a w hJ => wp_mono (pass a w hJ) fun e a' w' h => by cases e <;> first | exact h | exact ⟨h.1, h.2.1⟩) fun a w hJ => wp_skip_seq (pass a w hJ)

def StepX (g r0 b0 : Nat) (w : World) (nm : ByteArray) (ks : List PKey) (v : Value) (w' : World) : Prop :=
  Blk w' r0 70 #[.string ByteArray.empty, .slice none 0 0] ∧ Blk w' b0 70 #[.string nm, v] ∧ w'.ownsRow (b0 + 1) 33 2 v ks.length (pairCells ks) ∧ Only g w w' ∧ g < w.heap.size ∧ w.heap.size ≤ r0 ∧ r0 < b0 ∧ b0 < w'.heap.size
theorem StepX.only {g r0 b0 : Nat} {w w1 w2 : World} {nm : ByteArray} {ks : List PKey} {v : Value} (h : StepX g r0 b0 w nm ks v w1) (hO : Only g w1 w2) : StepX g r0 b0 w nm ks v w2 := by
  obtain ⟨h1, h2, h3, h4, h5, h6, h7, h8⟩ := h
  refine ⟨(hO.block _ (by omega) (by simp; omega)).trans h1, (hO.block _ (by omega) (by simp; omega)).trans h2, h3.kept hO ?_, h4.trans hO, h5, h6, h7, Nat.lt_of_lt_of_le h8 hO.size⟩
  cases hv : v.ownBlock with
  | none => exact .inl rfl
  | some k =>
    have := (h3.lt k hv).1
    exact .inr (by simp; omega)
def stepRest (nm : ByteArray) (r : Except (Int × Int) (List PKey × Nat)) : Except (Int × Int) ((ByteArray × List PKey) × Nat) := match r with
  | .error e => .error e
  | .ok (ks, q) => .ok ((nm, ks), q)
theorem stepM_rest {s : ByteArray} {p q : Nat} {nm : ByteArray} (h : nameM s p = .ok (nm, q)) : stepM s p = stepRest nm (keysM s q []) := by
  unfold stepM
  rw [h]
  rfl
def StepFrame (g r0 b0 : Nat) (ok : Bool) (a' : Act) : Prop := ∃ u : Nat → Value, a' = { tmps := (Value.pointer (some ⟨g, 0, none⟩) :: u 1 :: Value.pointer (some ⟨r0, 0, none⟩) :: u 3 :: u 4 :: Value.bool ok :: Value.pointer (some ⟨b0, 0, none⟩) :: u 7 :: u 8 :: u 9 :: u 10 :: u 11 :: u 12 :: u 13 :: u 14 :: u 15 :: u 16 :: u 17 :: u 18 :: u 19 :: u 20 :: u 21 :: u 22 :: u 23 :: u 24 :: u 25 :: u 26 :: u 27 :: u 28 :: u 29 :: u 30 :: u 31 :: u 32 :: u 33 :: u 34 :: u 35 :: u 36 :: u 37 :: u 38 :: u 39 :: u 40 :: u 41 :: u 42 :: u 43 :: u 44 :: u 45 :: u 46 :: u 47 :: u 48 :: u 49 :: u 50 :: u 51 :: u 52 :: u 53 :: u 54 :: u 55 :: u 56 :: u 57 :: u 58 :: u 59 :: u 60 :: u 61 :: u 62 :: u 63 :: u 64 :: u 65 :: u 66 :: u 67 :: u 68 :: u 69 :: u 70 :: u 71 :: u 72 :: u 73 :: u 74 :: u 75 :: u 76 :: u 77 :: u 78 :: u 79 :: u 80 :: u 81 :: u 82 :: []).toArray, defers := [] }
theorem stepFrame_of {g r0 b0 : Nat} {ok : Bool} {a' : Act} (u : Nat → Value) (_hu : u = fun i => a'.tmps.getD i (.string ByteArray.empty)) (h : a' = { tmps := (Value.pointer (some ⟨g, 0, none⟩) :: u 1 :: Value.pointer (some ⟨r0, 0, none⟩) :: u 3 :: u 4 :: Value.bool ok :: Value.pointer (some ⟨b0, 0, none⟩) :: u 7 :: u 8 :: u 9 :: u 10 :: u 11 :: u 12 :: u 13 :: u 14 :: u 15 :: u 16 :: u 17 :: u 18 :: u 19 :: u 20 :: u 21 :: u 22 :: u 23 :: u 24 :: u 25 :: u 26 :: u 27 :: u 28 :: u 29 :: u 30 :: u 31 :: u 32 :: u 33 :: u 34 :: u 35 :: u 36 :: u 37 :: u 38 :: u 39 :: u 40 :: u 41 :: u 42 :: u 43 :: u 44 :: u 45 :: u 46 :: u 47 :: u 48 :: u 49 :: u 50 :: u 51 :: u 52 :: u 53 :: u 54 :: u 55 :: u 56 :: u 57 :: u 58 :: u 59 :: u 60 :: u 61 :: u 62 :: u 63 :: u 64 :: u 65 :: u 66 :: u 67 :: u 68 :: u 69 :: u 70 :: u 71 :: u 72 :: u 73 :: u 74 :: u 75 :: u 76 :: u 77 :: u 78 :: u 79 :: u 80 :: u 81 :: u 82 :: []).toArray, defers := [] }) : StepFrame g r0 b0 ok a' := ⟨u, h⟩
/-- Where the label is. -/
def StepJ (g at_ : Nat) (s : ByteArray) (e a : Int) (w : World) (a' : Act) (w' : World) : Prop := ∃ (ok : Bool) (r0 b0 p : Nat) (nm : ByteArray) (ks : List PKey) (v : Value),
  StepFrame g r0 b0 ok a' ∧ StepX g r0 b0 w nm ks v w' ∧ p ≤ s.size ∧
    ((ok = true ∧ PR w' g s p e a ∧ ks.length ≤ p ∧ stepM s at_ = stepRest nm (keysM s p ks)) ∨ (ok = false ∧ ∃ x y p', PR w' g s p' x y ∧ stepM s at_ = .error (x, y)))
def stepMu (g : Nat) (s : ByteArray) (a' : Act) (w' : World) : Nat := match (a'.tmps[5]? : Option Value) with
  | some (Value.bool true) => s.size + 2 - atOf g w'
  | _ => 0
def StepPost (g at_ : Nat) (s : ByteArray) (e a : Int) (w : World) (en : Ending) (w' : World) : Prop :=
  (∃ x y nm A n c p, stepM s at_ = .error (x, y) ∧ en = .returned (.tuple #[.agg #[.string nm, .slice A n c], .bool false]) ∧ PR w' g s p x y ∧ Only g w w') ∨
  (∃ nm ks v q, stepM s at_ = .ok ((nm, ks), q) ∧ en = .returned (.tuple #[.agg #[.string nm, v], .bool true]) ∧ w'.ownsRow w.heap.size 33 2 v ks.length (pairCells ks) ∧ PR w' g s q e a ∧ Only g w w')

theorem results_row_tmp {fn : Func} {P : Program} {p u : Tmp} {ty : TypeId} (h : fn.results = #[.cell p ty, .tmp u]) (tmps : Array Value) (w : World) (g : Nat) (t : TypeId) (cs : Array Value) (d : TypeDesc)
    (hp : tmps.getD p undef = .pointer (some ⟨g, 0, none⟩)) (hg : Blk w g t cs)
    (hu : P.underlying ty = some d) (hd : (match d with | .struct _ | .array _ _ => true | _ => false) = true) (hi : (P.info? ty).map (·.size) = some cs.size) {x : Value} (hx : tmps.getD u undef = x) :
    (results fn tmps).run P w = .ok (.tuple #[.agg cs, x]) w := by
  rw [results_cell_tmp h, hp]
  simp [asAddr, run_loadVar_row w g t ty cs (0, 0) d hg hu hd hi]
  simpa using hx
theorem step_info : (Tryz.prog.info? 70).map (·.size) = some 2 := by kernel_rfl
theorem step_result {tmps : Array Value} {w : World} {r0 : Nat} {nm : ByteArray} {v : Value} {b : Bool} (hB : Blk w r0 70 #[.string nm, v]) (hp : tmps.getD 2 undef = .pointer (some ⟨r0, 0, none⟩)) (hu : tmps.getD 3 undef = .bool b) :
    (results Tryz.f59 tmps).run Tryz.prog w = .ok (.tuple #[.agg #[.string nm, v], .bool b]) w :=
  results_row_tmp Tryz.results59 tmps w r0 70 #[.string nm, v] _ hp hB Tryz.underlying70 rfl step_info hu

/-- What a return reads and writes. -/
theorem stepX_ret {g r0 b0 : Nat} {w W : World} {nm : ByteArray} {ks : List PKey} {v : Value} (h : StepX g r0 b0 w nm ks v W) :
    W.cell? ⟨b0, 0, none⟩ = some (.string nm) ∧ W.cell? ⟨b0, 1, none⟩ = some v ∧ W.cell? ⟨r0, 0, none⟩ = some (.string ByteArray.empty) ∧ W.frozen? ⟨r0, 0, none⟩ = false ∧ W.frozen? ⟨r0, 1, none⟩ = false ∧ W.cell? ⟨r0, 1, none⟩ = some (.slice none 0 0) ∧
    (W.setCell ⟨r0, 0, none⟩ (.string nm)).cell? ⟨r0, 1, none⟩ = some (.slice none 0 0) ∧ (W.setCell ⟨r0, 0, none⟩ (.string nm)).frozen? ⟨r0, 1, none⟩ = false :=
  ⟨h.2.1.cell 0, h.2.1.cell 1, h.1.cell 0, h.1.frozen 0, h.1.frozen 1, h.1.cell 1, (h.1.set_ 0 (.string nm)).cell 1, (h.1.set_ 0 (.string nm)).frozen 1⟩
theorem stepX_blk {g r0 b0 : Nat} {w W : World} {nm : ByteArray} {ks : List PKey} {v : Value} (h : StepX g r0 b0 w nm ks v W) : Blk ((W.setCell ⟨r0, 0, none⟩ (.string nm)).setCell ⟨r0, 1, none⟩ v) r0 70 #[.string nm, v] := (h.1.set_ 0 (.string nm)).set_ 1 v
theorem stepX_only {g r0 b0 : Nat} {w W : World} {nm : ByteArray} {ks : List PKey} {v : Value} (h : StepX g r0 b0 w nm ks v W) : Only g w ((W.setCell ⟨r0, 0, none⟩ (.string nm)).setCell ⟨r0, 1, none⟩ v) := (h.2.2.2.1.setCell (.inr h.2.2.2.2.2.1) _).setCell (.inr h.2.2.2.2.2.1) _
theorem step_bad {g at_ r0 b0 p : Nat} {s : ByteArray} {e a x y : Int} {w W : World} {nm : ByteArray} {ks : List PKey} {v : Value} (h : StepX g r0 b0 w nm ks v W) (hR : PR W g s p x y) (hM : stepM s at_ = .error (x, y)) :
    StepPost g at_ s e a w (.returned (.tuple #[.agg #[.string nm, v], .bool false])) ((W.setCell ⟨r0, 0, none⟩ (.string nm)).setCell ⟨r0, 1, none⟩ v) := by
  obtain ⟨A, c, rfl, -, -, -⟩ := own_form h.2.2.1
  exact .inl ⟨x, y, _, _, _, _, p, hM, rfl, (hR.far (by simp; have := h.2.2.2.2; omega) _).far (by simp; have := h.2.2.2.2; omega) _, stepX_only h⟩
theorem step_fine {g at_ r0 b0 p : Nat} {s : ByteArray} {e a : Int} {w W : World} {nm : ByteArray} {ks : List PKey} {v : Value} (h : StepX g r0 b0 w nm ks v W) (hR : PR W g s p e a) (hM : stepM s at_ = .ok ((nm, ks), p)) :
    StepPost g at_ s e a w (.returned (.tuple #[.agg #[.string nm, v], .bool true])) ((W.setCell ⟨r0, 0, none⟩ (.string nm)).setCell ⟨r0, 1, none⟩ v) := by
  refine .inr ⟨nm, ks, v, p, hM, rfl, ?_, (hR.far (by simp; have := h.2.2.2.2; omega) _).far (by simp; have := h.2.2.2.2; omega) _, stepX_only h⟩
  have hX := h.2.2.2.2
  exact own_base (own_far (own_far h.2.2.1 (by simp; omega) _) (by simp; omega) _) (by omega)
/-- Behind a value: the pass goes on. -/
theorem step_key {s : ByteArray} {at_ : Nat} {nm : ByteArray} {r : Except (Int × Int) (List PKey × Nat)} {e : Int × Int} (h : stepM s at_ = stepRest nm r) (hr : r = .error e) : stepM s at_ = .error e := by rw [h, hr]; rfl

theorem pair_info : (Tryz.prog.info? 33).map (fun i => (i.zero, i.size, i.bytes)) = some (some (.agg #[.string ByteArray.empty, .string ByteArray.empty]), 2, 32) := by kernel_rfl
theorem stepX_own {g r0 b0 : Nat} {w W : World} {nm : ByteArray} {ks : List PKey} {v : Value} (h : StepX g r0 b0 w nm ks v W) : ∀ k, v.ownBlock = some k → b0 + 1 ≤ k := fun k hk => (h.2.2.1.lt k hk).1
theorem stepX_b0 {g r0 b0 : Nat} {w W w8 : World} {nm : ByteArray} {ks : List PKey} {v : Value} (h : StepX g r0 b0 w nm ks v W) (hg : W.grownBy w8 v.ownBlock) : Blk w8 b0 70 #[.string nm, v] := h.2.1.grown hg (fun e => by have := stepX_own h _ e.symm; omega)
theorem stepX_pr {g r0 b0 p : Nat} {s : ByteArray} {e a : Int} {w W w8 : World} {nm : ByteArray} {ks : List PKey} {v u : Value} (h : StepX g r0 b0 w nm ks v W) (hR : PR W g s p e a) (hg : W.grownBy w8 v.ownBlock) : PR (w8.setCell ⟨b0, 1, none⟩ u) g s p e a :=
  (Blk.grown hR hg (fun e => by have := stepX_own h _ e.symm; have := h.2.2.2.2; omega)).far (by have := h.2.2.2.2; simp; omega) u
theorem stepX_push {g r0 b0 : Nat} {w W w8 : World} {nm key val : ByteArray} {ks : List PKey} {v v3 : Value} (h : StepX g r0 b0 w nm ks v W) (hg : W.grownBy w8 v.ownBlock)
    (hown : w8.ownsRow (b0 + 1) 33 2 v3 (ks.length + 1) (pairCells ks ++ [.string key, .string val])) : StepX g r0 b0 w nm (ks ++ [(key, val)]) v3 (w8.setCell ⟨b0, 1, none⟩ v3) := by
  have ho := stepX_own h
  have hX := h.2.2.2.2
  refine ⟨(h.1.grown hg (fun e => by have := ho _ e.symm; omega)).far (by simp; omega) _, (stepX_b0 h hg).set_ 1 v3, ?_, (h.2.2.2.1.grown hg (fun k hk => by have := ho k hk; omega)).setCell (.inr (by simp; omega)) _, h.2.2.2.2.1, by omega, by omega, by have := hg.size; simp [World.setCell]; omega⟩
  rw [pairCells_append, List.length_append]
  exact own_far hown (by simp) _
/-- The last key, as the row holds it. -/
theorem step_last {g r0 b0 : Nat} {w W : World} {nm : ByteArray} {ks : List PKey} {A : Option Addr} {vc : Nat} (h : StepX g r0 b0 w nm ks (.slice A ks.length vc) W) (key : ByteArray) :
    (ks.length = 0 ∧ risesB ks key = true) ∨ (∃ (m gb : Nat) (kl : PKey), ks.length = m + 1 ∧ A = some ⟨gb, 0, none⟩ ∧ W.cell? ⟨gb, m * 2, none⟩ = some (.string kl.1) ∧ risesB ks key = Op.bytesLess kl.1.toList key.toList) := by
  rcases List.eq_nil_or_concat ks with rfl | ⟨ks0, kl, rfl⟩
  · exact .inl ⟨rfl, rfl⟩
  · obtain ⟨h1, h2⟩ := h.2.2.1
    rcases h2 with ⟨_, h2⟩ | ⟨gb, cap, cur, hv, -⟩
    · simp at h2
    · have hA : A = some ⟨gb, 0, none⟩ := by simp at hv; exact hv.1
      subst hA
      refine .inr ⟨ks0.length, gb, kl, by simp, rfl, ?_, by simp [risesB]⟩
      have hat := (pairCells_at (ks0.concat kl) ks0.length kl (by simp)).1
      have := World.ownsRow.cells h.2.2.1 (g := gb) (by rfl) _ _ hat
      rw [Addr.add_lit] at this
      simpa using this

set_option maxRecDepth 100000 in
set_option maxHeartbeats 4000000 in
theorem step_any (g at_ : Nat) (s : ByteArray) (e a : Int) (w : World) (h : PR w g s at_ e a) (hle : at_ ≤ s.size) (hs : s.size ≤ 100000) :
    Calls Tryz.prog 59 #[.pointer (some ⟨g, 0, none⟩)] w (StepPost g at_ s e a w) := by
  go_enter Tryz.func59, Tryz.ntmps59
  go_wp2
  refine wp_scope_enter 0 (StepJ g at_ s e a w) (stepMu g s) rfl ?_ ?_
  · rintro a' w' ⟨ok, r0, b0, p, nm, ks, v, ⟨u, rfl⟩, hX, hp, hJ⟩
    obtain ⟨A, vc, rfl, hvc, hvm, hRd⟩ := own_form hX.2.2.1
    have HX := Lib.hid hX
    clear hX h
    rcases hJ with ⟨rfl, hR, hkp, hM⟩ | ⟨rfl, x, y, p', hR, hM⟩
    · have HJ := Lib.hid (And.intro hkp hM)
      have HRd := Lib.hid hRd
      clear hkp hM hRd
      cases hsb : standsB s p 91
      · have HNx := Lib.hid (next_any g p s e a 91 w' hR (by omega) false hsb)
        have HM := Lib.hid (show stepM s at_ = .ok ((nm, ks), p) by rw [HJ.out.2, km_none hp hsb]; rfl)
        clear hsb hR
        go_wp2_with (go_at_call 60; go_loud (refine HNx.out.mono ?_; rintro en w1 ⟨rfl, hR1, hO1⟩; obtain ⟨c0, c1, d0, f0, f1, d1, g1, g2⟩ := stepX_ret (HX.out.only hO1); have HX1 := Lib.hid (HX.out.only hO1); clear HX))
        change bodyPost Tryz.prog Tryz.f59 (StepPost g at_ s e a w) Exit.ret _ _
        exact bodyPost_ret (step_result (stepX_blk HX1.out) rfl rfl) rfl (step_fine HX1.out hR1 HM.out)
      · have HNx := Lib.hid (next_yes g p s e a 91 w' hR (by omega) hsb)
        obtain ⟨p1, hp1⟩ : ∃ p1, p + 1 = p1 := ⟨_, rfl⟩
        have hp2 : p1 ≤ s.size := by have := stands_lt hsb; omega
        rw [hp1] at HNx
        have HSB := Lib.hid (And.intro hsb (And.intro hp1 (And.intro hp hp2)))
        have HRp := Lib.hid hR
        clear hsb hR hp1 hp hp2
        have HG := Lib.hid (show g < w'.heap.size by have := HX.out.2.2.2.2; omega)
        go_upto_region 8 with (first
          | (go_at_call 60
             refine HNx.out.mono ?_
             rintro en w1 ⟨rfl, hR1, hO1⟩
             have k1 := hR1.c1
             have HX1 := Lib.hid (HX.out.only hO1)
             have HR1 := Lib.hid (hR1.alloc (.cells #[.string ByteArray.empty, .string ByteArray.empty] 33))
             have HK1 := Lib.hid (Blk.new w1 33 #[.string ByteArray.empty, .string ByteArray.empty])
             have HG1 := Lib.hid (Nat.lt_of_lt_of_le HG.out hO1.size)
             clear HX HNx hO1 hR1)
          | (go_at_call 86
             refine (name_any g p1 s e a _ HR1.out HSB.out.2.2.2 (by omega)).mono ?_
             rintro en w2 (⟨x, y, p', hE, rfl, hR2, hO2⟩ | ⟨hE, rfl, hR2, hO2⟩)
             all_goals
               have hK2 : Blk w2 w1.heap.size 33 #[.string ByteArray.empty, .string ByteArray.empty] := (hO2.block _ (by simp) (by have := HG1.out; simp; omega)).trans HK1.out
               have HO2 := Lib.hid (((Only.refl g w1).alloc _).trans hO2)
               have k20 : w2.cell? ⟨w1.heap.size, 0, none⟩ = some (.string ByteArray.empty) := hK2.cell 0
               have k21 := hK2.frozen 0
               have HK2 := Lib.hid hK2
               have HE := Lib.hid hE
               have HR2 := Lib.hid hR2
               clear hK2 hE hR2 hO2 HR1 HK1 k1))
        · have HO3 := Lib.hid (HO2.out.setCell (p := ⟨w1.heap.size, 0, none⟩) (.inr (Nat.le_refl _)) (.string ByteArray.empty))
          have HR3 := Lib.hid (HR2.out.far (p := ⟨w1.heap.size, 0, none⟩) (by have := HG1.out; simp; omega) (.string ByteArray.empty))
          generalize w2.setCell ⟨w1.heap.size, 0, none⟩ (.string ByteArray.empty) = w3 at *
          have HX3 := Lib.hid (HX1.out.only HO3.out)
          obtain ⟨c0, c1, d0, f0, f1, d1, g1, g2⟩ := stepX_ret HX3.out
          clear k20 k21 HR2 HO2 HK2
          go_wp2
          change bodyPost Tryz.prog Tryz.f59 (StepPost g at_ s e a w) Exit.ret _ _
          exact bodyPost_ret (step_result (stepX_blk HX3.out) rfl rfl) rfl (step_bad HX3.out HR3.out (step_key HJ.out.2 (km_name HSB.out.2.2.1 HSB.out.1 (by rw [HSB.out.2.1]; exact HE.out))))
        · have HNM := Lib.hid (show nameM s p1 = .ok (s.extract p1 (nameEnd s p1), nameEnd s p1) by unfold nameM; rw [HE.out])
          have HO3 := Lib.hid (HO2.out.setCell (p := ⟨w1.heap.size, 0, none⟩) (.inr (Nat.le_refl _)) (.string (s.extract p1 (nameEnd s p1))))
          have HR3 := Lib.hid (HR2.out.far (p := ⟨w1.heap.size, 0, none⟩) (by have := HG1.out; simp; omega) (.string (s.extract p1 (nameEnd s p1))))
          have HK3 := Lib.hid (HK2.out.set_ 0 (.string (s.extract p1 (nameEnd s p1))))
          generalize w2.setCell ⟨w1.heap.size, 0, none⟩ (.string (s.extract p1 (nameEnd s p1))) = w3 at *
          clear HE k20 k21 HR2 HO2 HK2
          generalize s.extract p1 (nameEnd s p1) = key at *
          generalize nameEnd s p1 = q at *
          have HQ := Lib.hid (nameM_ok HNM.out HSB.out.2.2.2)
          have HX3 := Lib.hid (HX1.out.only HO3.out)
          obtain ⟨c0, c1, d0, f0, f1, d1, g1, g2⟩ := stepX_ret HX3.out
          have k30 : w3.cell? ⟨w1.heap.size, 0, none⟩ = some (.string key) := HK3.out.cell 0
          have k31 : w3.cell? ⟨w1.heap.size, 1, none⟩ = some (.string ByteArray.empty) := HK3.out.cell 1
          have k32 := HK3.out.frozen 1
          have HF := Lib.hid (fun W hW => fail_any g q s e a 160 p1 W hW)
          have HV := Lib.hid (step_last HX3.out key)
          have HN := Lib.hid (show ks.length ≤ 100000 by have := HJ.out.1; have := HSB.out; omega)
          generalize hN : ks.length = n at *
          have HL := Lib.hid hN
          clear hN hvc hvm HRd
          rcases HV.out with ⟨rfl, hB⟩ | ⟨m, gb, kl, rfl, rfl, hcell, hB⟩
          · clear HV
            have HB := Lib.hid hB
            clear hB
            go_upto_region 11 with (fail)
            go_quiet (fail)
            go_upto_region 13 with (fail)
            have HR4 := Lib.hid (HR3.out.drewN nq)
            have HO4 := Lib.hid (HO3.out.drewN nq)
            have HX4 := Lib.hid (HX3.out.only ((Only.refl g w3).drewN nq))
            have HK4 := Lib.hid (HK3.out.drewN nq)
            clear HX3 HO3 HK3 HR3 k30 k31 k32 c0 c1 d0 d1 f0 f1 g1 g2 HF
            generalize w3.drewN nq = w4 at *
            cases hse : standsB s q 61
            · have HNx2 := Lib.hid (next_no g q s e a 61 w4 HR4.out (by omega) hse)
              have HM := Lib.hid (show stepM s at_ = .error (160, (q : Int)) by rw [HJ.out.2, km_noeq HSB.out.2.2.1 HSB.out.1 (by rw [HSB.out.2.1]; exact HNM.out) HB.out hse]; rfl)
              have HF := Lib.hid (fun W hW => fail_any g q s e a 160 q W hW)
              clear hse
              go_upto_region 14 with (go_at_call 60; refine HNx2.out.mono ?_; rintro en w5 ⟨rfl, hR5, hO5⟩; have k5 := hR5.c1; have HX5 := Lib.hid (HX4.out.only hO5); obtain ⟨c0, c1, d0, f0, f1, d1, g1, g2⟩ := stepX_ret HX5.out; have HR5 := Lib.hid hR5; clear hR5 hO5 HNx2)
              go_region_with (go_at_call 58; refine (HF.out _ ?_).mono ?_; go_loud (exact HR5.out.drewN _); rintro en w6 ⟨rfl, hR6, hO6⟩; obtain ⟨c50, c51, d50, f50, f51, d51, g51, g52⟩ := stepX_ret (HX5.out.only (((Only.refl g w5).drewN _).trans hO6)); have HX6 := Lib.hid (HX5.out.only (((Only.refl g w5).drewN _).trans hO6)))
              all_goals
                go_wp2
                change bodyPost Tryz.prog Tryz.f59 (StepPost g at_ s e a w) Exit.ret _ _
                exact bodyPost_ret (step_result (stepX_blk HX6.out) rfl rfl) rfl (step_bad HX6.out hR6 HM.out)
            · have HNx2 := Lib.hid (next_yes g q s e a 61 w4 HR4.out (by omega) hse)
              obtain ⟨q1, hq1⟩ : ∃ q1, q + 1 = q1 := ⟨_, rfl⟩
              rw [hq1] at HNx2
              have HSE := Lib.hid (show standsB s q 61 = true ∧ q + 1 = q1 ∧ q1 ≤ s.size from ⟨hse, hq1, by have := stands_lt hse; omega⟩)
              clear hse hq1
              go_upto_region 16 with (first
                | (go_at_call 60
                   refine HNx2.out.mono ?_
                   rintro en w5 ⟨rfl, hR5, hO5⟩
                   have HO5 := Lib.hid (HO4.out.trans hO5)
                   have HR5 := Lib.hid hR5
                   have HK5 := Lib.hid (show Blk w5 w1.heap.size 33 #[.string key, .string ByteArray.empty] from (hO5.block _ HK4.out.lt (by have := HG1.out; simp; omega)).trans HK4.out)
                   clear HNx2 hR5 hO5 HR4 HO4 HK4 HX4)
                | (go_at_call 87
                   refine (value_any g q1 s e a _ HR5.out HSE.out.2.2 hs).mono ?_
                   rintro en w6 (⟨x, y, p', hE, rfl, hR6, hO6⟩ | ⟨l, q2, hE, rfl, hR6, hO6⟩)
                   all_goals
                     have hK6 : Blk w6 w1.heap.size 33 #[.string key, .string ByteArray.empty] := (hO6.block _ HK5.out.lt (by have := HG1.out; simp; omega)).trans HK5.out
                     have HO6 := Lib.hid (HO5.out.trans hO6)
                     have k60 : w6.cell? ⟨w1.heap.size, 1, none⟩ = some (.string ByteArray.empty) := hK6.cell 1
                     have k61 := hK6.frozen 1
                     have HK6 := Lib.hid hK6
                     have HE := Lib.hid hE
                     have HR6 := Lib.hid hR6
                     clear hK6 hE hR6 hO6 HR5 HK5 HO5))
              · have HO7 := Lib.hid (HO6.out.setCell (p := ⟨w1.heap.size, 1, none⟩) (.inr (Nat.le_refl _)) (.string ByteArray.empty))
                have HR7 := Lib.hid (HR6.out.far (p := ⟨w1.heap.size, 1, none⟩) (by have := HG1.out; simp; omega) (.string ByteArray.empty))
                generalize w6.setCell ⟨w1.heap.size, 1, none⟩ (.string ByteArray.empty) = w7 at *
                have HX7 := Lib.hid (HX1.out.only HO7.out)
                have HM := Lib.hid (show stepM s at_ = .error (x, y) by rw [HJ.out.2, km_val HSB.out.2.2.1 HSB.out.1 (by rw [HSB.out.2.1]; exact HNM.out) HB.out HSE.out.1 (by rw [HSE.out.2.1]; exact HE.out)]; rfl)
                clear k60 k61 HR6 HO6 HK6
                go_wp2
                refine wp_goto ?_
                refine ⟨rfl, ⟨false, r0, b0, p, nm, ks, _, stepFrame_of _ rfl rfl, HX7.out, HSB.out.2.2.1, .inr ⟨rfl, x, y, p', HR7.out, HM.out⟩⟩, ?_⟩
                show (0 : Nat) < s.size + 2 - atOf g w'
                rw [atOf_pr HRp.out]
                have := HSB.out.2.2.1
                omega
              · have HO7 := Lib.hid (HO6.out.setCell (p := ⟨w1.heap.size, 1, none⟩) (.inr (Nat.le_refl _)) (.string (str l)))
                have HR7 := Lib.hid (HR6.out.far (p := ⟨w1.heap.size, 1, none⟩) (by have := HG1.out; simp; omega) (.string (str l)))
                have HK7 := Lib.hid (HK6.out.set_ 1 (.string (str l)))
                generalize w6.setCell ⟨w1.heap.size, 1, none⟩ (.string (str l)) = w7 at *
                have HX7 := Lib.hid (HX1.out.only HO7.out)
                have HM := Lib.hid (show stepM s at_ = stepRest nm (keysM s q2 (ks ++ [(key, str l)])) by rw [HJ.out.2, km_go HSB.out.2.2.1 HSB.out.1 (by rw [HSB.out.2.1]; exact HNM.out) HB.out HSE.out.1 (by rw [HSE.out.2.1]; exact HE.out)])
                have HV2 := Lib.hid (valAt_ok HE.out)
                generalize str l = val at *
                have c0 := HX7.out.2.1.cell 1
                have k70 : w7.cell? ⟨w1.heap.size, 0, none⟩ = some (.string key) := HK7.out.cell 0
                have k71 : w7.cell? ⟨w1.heap.size, 1, none⟩ = some (.string val) := HK7.out.cell 1
                have HXA := Lib.hid (HX7.out.only ((Only.refl g w7).alloc (.cells #[.string key, .string val] 33)))
                have HRA := Lib.hid (HR7.out.alloc (.cells #[.string key, .string val] 33))
                have HRD := Lib.hid (reads_new w7 #[.string key, .string val] 33 2 1 rfl)
                clear k60 k61 HR6 HO6 HK6 HK7 HO7
                obtain ⟨i0, hi0, hz0, hz1, hz2⟩ := info_parts pair_info
                go_upto_region 18 with (at_builtin; go_loud (refine wpList_append_any _ rfl (.tmp 78) (.tmp 80) _ rfl (b0 + 1) 33 i0 _ 2 32 Tryz.underlying22 hi0 hz0 hz1 hz2 rfl (by omega) _ ks.length (pairCells ks) rfl HXA.out.2.2.1 (w7.heap.size + 1) (some ⟨w7.heap.size, 0, none⟩) 1 1 [.string key, .string val] rfl (HRD.out) (by simp [Value.oneCell']) (by have := HL.out; have := HN.out; simp only [maxLen]; omega) (by have := HL.out; have := HN.out; omega) (by have := HXA.out.2.2.2.2; omega) ?_); intro v3 w8 hown3 hg3 hat3; obtain ⟨A3, vc3, rfl, -, -, -⟩ := own_form hown3; have b8 := stepX_b0 HXA.out hg3; have b80 := b8.cell 1; have b81 := b8.frozen 1; have HX8 := Lib.hid (stepX_push HXA.out hg3 hown3); have HR8 := Lib.hid (stepX_pr (u := .slice A3 (ks.length + 1) vc3) HXA.out HRA.out hg3); clear b8 hown3 hg3 hat3)
                refine wp_goto ?_
                refine ⟨rfl, ⟨true, r0, b0, q2, nm, ks ++ [(key, val)], _, stepFrame_of _ rfl rfl, HX8.out, HV2.out.2, .inl ⟨rfl, HR8.out, ?_, HM.out⟩⟩, ?_⟩
                · have := HL.out
                  have := HJ.out.1
                  have := HSB.out.2
                  have := HSE.out.2
                  have := HQ.out.1
                  have := HV2.out
                  simp
                  omega
                · show s.size + 2 - atOf g _ < s.size + 2 - atOf g w'
                  rw [atOf_pr HRp.out, atOf_pr HR8.out]
                  have := HSB.out.2
                  have := HSE.out.2
                  have := HQ.out.1
                  have := HV2.out
                  omega
          · clear HV
            have hwr : IntKind.i64.wrap (m : Int) = (m : Int) := by have := HN.out; rw [IntKind.wrap_i64]; omega
            have hm1 : (m : Int) < (m : Int) + 1 := by omega
            have hm : (m : Int) ≤ 100000 := by have := HN.out; omega
            cases hb : Op.bytesLess kl.1.toList key.toList
            · have HB := Lib.hid (hB.trans hb)
              clear hB
              go_upto_region 11 with (fail)
              go_quiet (fail)
              have HR4 := Lib.hid (HR3.out.drewN nq)
              have HX4 := Lib.hid (HX3.out.only ((Only.refl g w3).drewN nq))
              have HM := Lib.hid (show stepM s at_ = .error (160, (p1 : Int)) by rw [HJ.out.2, km_falls HSB.out.2.2.1 HSB.out.1 (by rw [HSB.out.2.1]; exact HNM.out) HB.out, HSB.out.2.1]; rfl)
              clear hcell hwr hm1 hm hb HB
              generalize w3.drewN nq = w4 at *
              obtain ⟨c0, c1, d0, f0, f1, d1, g1, g2⟩ := stepX_ret HX4.out
              clear HX3 HO3 HK3 HR3 k30 k31 k32
              go_upto_region 12 with (fail)
              go_region_with (go_at_call 58; refine (HF.out _ ?_).mono ?_; go_loud (exact HR4.out.drewN _); rintro en w5 ⟨rfl, hR5, hO5⟩; obtain ⟨c50, c51, d50, f50, f51, d51, g51, g52⟩ := stepX_ret (HX4.out.only (((Only.refl g w4).drewN _).trans hO5)); have HX5 := Lib.hid (HX4.out.only (((Only.refl g w4).drewN _).trans hO5)))
              all_goals
                go_wp2
                change bodyPost Tryz.prog Tryz.f59 (StepPost g at_ s e a w) Exit.ret _ _
                exact bodyPost_ret (step_result (stepX_blk HX5.out) rfl rfl) rfl (step_bad HX5.out hR5 HM.out)
            · have HB := Lib.hid (hB.trans hb)
              clear hB
              go_upto_region 11 with (fail)
              go_quiet (fail)
              clear hcell hwr hm1 hm hb
              go_upto_region 13 with (fail)
              have HR4 := Lib.hid (HR3.out.drewN nq)
              have HO4 := Lib.hid (HO3.out.drewN nq)
              have HX4 := Lib.hid (HX3.out.only ((Only.refl g w3).drewN nq))
              have HK4 := Lib.hid (HK3.out.drewN nq)
              clear HX3 HO3 HK3 HR3 k30 k31 k32 c0 c1 d0 d1 f0 f1 g1 g2 HF
              generalize w3.drewN nq = w4 at *
              cases hse : standsB s q 61
              · have HNx2 := Lib.hid (next_no g q s e a 61 w4 HR4.out (by omega) hse)
                have HM := Lib.hid (show stepM s at_ = .error (160, (q : Int)) by rw [HJ.out.2, km_noeq HSB.out.2.2.1 HSB.out.1 (by rw [HSB.out.2.1]; exact HNM.out) HB.out hse]; rfl)
                have HF := Lib.hid (fun W hW => fail_any g q s e a 160 q W hW)
                clear hse
                go_upto_region 14 with (go_at_call 60; refine HNx2.out.mono ?_; rintro en w5 ⟨rfl, hR5, hO5⟩; have k5 := hR5.c1; have HX5 := Lib.hid (HX4.out.only hO5); obtain ⟨c0, c1, d0, f0, f1, d1, g1, g2⟩ := stepX_ret HX5.out; have HR5 := Lib.hid hR5; clear hR5 hO5 HNx2)
                go_region_with (go_at_call 58; refine (HF.out _ ?_).mono ?_; go_loud (exact HR5.out.drewN _); rintro en w6 ⟨rfl, hR6, hO6⟩; obtain ⟨c50, c51, d50, f50, f51, d51, g51, g52⟩ := stepX_ret (HX5.out.only (((Only.refl g w5).drewN _).trans hO6)); have HX6 := Lib.hid (HX5.out.only (((Only.refl g w5).drewN _).trans hO6)))
                all_goals
                  go_wp2
                  change bodyPost Tryz.prog Tryz.f59 (StepPost g at_ s e a w) Exit.ret _ _
                  exact bodyPost_ret (step_result (stepX_blk HX6.out) rfl rfl) rfl (step_bad HX6.out hR6 HM.out)
              · have HNx2 := Lib.hid (next_yes g q s e a 61 w4 HR4.out (by omega) hse)
                obtain ⟨q1, hq1⟩ : ∃ q1, q + 1 = q1 := ⟨_, rfl⟩
                rw [hq1] at HNx2
                have HSE := Lib.hid (show standsB s q 61 = true ∧ q + 1 = q1 ∧ q1 ≤ s.size from ⟨hse, hq1, by have := stands_lt hse; omega⟩)
                clear hse hq1
                go_upto_region 16 with (first
                  | (go_at_call 60
                     refine HNx2.out.mono ?_
                     rintro en w5 ⟨rfl, hR5, hO5⟩
                     have HO5 := Lib.hid (HO4.out.trans hO5)
                     have HR5 := Lib.hid hR5
                     have HK5 := Lib.hid (show Blk w5 w1.heap.size 33 #[.string key, .string ByteArray.empty] from (hO5.block _ HK4.out.lt (by have := HG1.out; simp; omega)).trans HK4.out)
                     clear HNx2 hR5 hO5 HR4 HO4 HK4 HX4)
                  | (go_at_call 87
                     refine (value_any g q1 s e a _ HR5.out HSE.out.2.2 hs).mono ?_
                     rintro en w6 (⟨x, y, p', hE, rfl, hR6, hO6⟩ | ⟨l, q2, hE, rfl, hR6, hO6⟩)
                     all_goals
                       have hK6 : Blk w6 w1.heap.size 33 #[.string key, .string ByteArray.empty] := (hO6.block _ HK5.out.lt (by have := HG1.out; simp; omega)).trans HK5.out
                       have HO6 := Lib.hid (HO5.out.trans hO6)
                       have k60 : w6.cell? ⟨w1.heap.size, 1, none⟩ = some (.string ByteArray.empty) := hK6.cell 1
                       have k61 := hK6.frozen 1
                       have HK6 := Lib.hid hK6
                       have HE := Lib.hid hE
                       have HR6 := Lib.hid hR6
                       clear hK6 hE hR6 hO6 HR5 HK5 HO5))
                · have HO7 := Lib.hid (HO6.out.setCell (p := ⟨w1.heap.size, 1, none⟩) (.inr (Nat.le_refl _)) (.string ByteArray.empty))
                  have HR7 := Lib.hid (HR6.out.far (p := ⟨w1.heap.size, 1, none⟩) (by have := HG1.out; simp; omega) (.string ByteArray.empty))
                  generalize w6.setCell ⟨w1.heap.size, 1, none⟩ (.string ByteArray.empty) = w7 at *
                  have HX7 := Lib.hid (HX1.out.only HO7.out)
                  have HM := Lib.hid (show stepM s at_ = .error (x, y) by rw [HJ.out.2, km_val HSB.out.2.2.1 HSB.out.1 (by rw [HSB.out.2.1]; exact HNM.out) HB.out HSE.out.1 (by rw [HSE.out.2.1]; exact HE.out)]; rfl)
                  clear k60 k61 HR6 HO6 HK6
                  go_wp2
                  refine wp_goto ?_
                  refine ⟨rfl, ⟨false, r0, b0, p, nm, ks, _, stepFrame_of _ rfl rfl, HX7.out, HSB.out.2.2.1, .inr ⟨rfl, x, y, p', HR7.out, HM.out⟩⟩, ?_⟩
                  show (0 : Nat) < s.size + 2 - atOf g w'
                  rw [atOf_pr HRp.out]
                  have := HSB.out.2.2.1
                  omega
                · have HO7 := Lib.hid (HO6.out.setCell (p := ⟨w1.heap.size, 1, none⟩) (.inr (Nat.le_refl _)) (.string (str l)))
                  have HR7 := Lib.hid (HR6.out.far (p := ⟨w1.heap.size, 1, none⟩) (by have := HG1.out; simp; omega) (.string (str l)))
                  have HK7 := Lib.hid (HK6.out.set_ 1 (.string (str l)))
                  generalize w6.setCell ⟨w1.heap.size, 1, none⟩ (.string (str l)) = w7 at *
                  have HX7 := Lib.hid (HX1.out.only HO7.out)
                  have HM := Lib.hid (show stepM s at_ = stepRest nm (keysM s q2 (ks ++ [(key, str l)])) by rw [HJ.out.2, km_go HSB.out.2.2.1 HSB.out.1 (by rw [HSB.out.2.1]; exact HNM.out) HB.out HSE.out.1 (by rw [HSE.out.2.1]; exact HE.out)])
                  have HV2 := Lib.hid (valAt_ok HE.out)
                  generalize str l = val at *
                  have c0 := HX7.out.2.1.cell 1
                  have k70 : w7.cell? ⟨w1.heap.size, 0, none⟩ = some (.string key) := HK7.out.cell 0
                  have k71 : w7.cell? ⟨w1.heap.size, 1, none⟩ = some (.string val) := HK7.out.cell 1
                  have HXA := Lib.hid (HX7.out.only ((Only.refl g w7).alloc (.cells #[.string key, .string val] 33)))
                  have HRA := Lib.hid (HR7.out.alloc (.cells #[.string key, .string val] 33))
                  have HRD := Lib.hid (reads_new w7 #[.string key, .string val] 33 2 1 rfl)
                  clear k60 k61 HR6 HO6 HK6 HK7 HO7
                  obtain ⟨i0, hi0, hz0, hz1, hz2⟩ := info_parts pair_info
                  go_upto_region 18 with (at_builtin; go_loud (refine wpList_append_any _ rfl (.tmp 78) (.tmp 80) _ rfl (b0 + 1) 33 i0 _ 2 32 Tryz.underlying22 hi0 hz0 hz1 hz2 rfl (by omega) _ ks.length (pairCells ks) rfl HXA.out.2.2.1 (w7.heap.size + 1) (some ⟨w7.heap.size, 0, none⟩) 1 1 [.string key, .string val] rfl (HRD.out) (by simp [Value.oneCell']) (by have := HL.out; have := HN.out; simp only [maxLen]; omega) (by have := HL.out; have := HN.out; omega) (by have := HXA.out.2.2.2.2; omega) ?_); intro v3 w8 hown3 hg3 hat3; obtain ⟨A3, vc3, rfl, -, -, -⟩ := own_form hown3; have b8 := stepX_b0 HXA.out hg3; have b80 := b8.cell 1; have b81 := b8.frozen 1; have HX8 := Lib.hid (stepX_push HXA.out hg3 hown3); have HR8 := Lib.hid (stepX_pr (u := .slice A3 (ks.length + 1) vc3) HXA.out HRA.out hg3); clear b8 hown3 hg3 hat3)
                  refine wp_goto ?_
                  refine ⟨rfl, ⟨true, r0, b0, q2, nm, ks ++ [(key, val)], _, stepFrame_of _ rfl rfl, HX8.out, HV2.out.2, .inl ⟨rfl, HR8.out, ?_, HM.out⟩⟩, ?_⟩
                  · have := HL.out
                    have := HJ.out.1
                    have := HSB.out.2
                    have := HSE.out.2
                    have := HQ.out.1
                    have := HV2.out
                    simp
                    omega
                  · show s.size + 2 - atOf g _ < s.size + 2 - atOf g w'
                    rw [atOf_pr HRp.out, atOf_pr HR8.out]
                    have := HSB.out.2
                    have := HSE.out.2
                    have := HQ.out.1
                    have := HV2.out
                    omega
    · obtain ⟨c0, c1, d0, f0, f1, d1, g1, g2⟩ := stepX_ret HX.out
      go_wp2
      change bodyPost Tryz.prog Tryz.f59 (StepPost g at_ s e a w) Exit.ret _ _
      exact bodyPost_ret (step_result (stepX_blk HX.out) rfl rfl) rfl (step_bad HX.out hR hM)
  · intro HF0
    have HF := Lib.hid HF0
    clear HF0
    have hg := h.lt
    have HN := Lib.hid (fun W hW => name_any g at_ s e a W hW hle (by omega))
    have HP := Lib.hid (h.alloc (.cells #[.string ByteArray.empty, .slice none 0 0] 70))
    have HB := Lib.hid (Blk.new w 70 #[.string ByteArray.empty, .slice none 0 0])
    have HO := Lib.hid ((Only.refl g w).alloc (.cells #[.string ByteArray.empty, .slice none 0 0] 70))
    clear h
    go_upto_block 2 with (go_at_call 86; go_loud (refine (HN.out _ HP.out).mono ?_; rintro en w1 (⟨x, y, p, hE, rfl, hR1, hO1⟩ | ⟨hE, rfl, hR1, hO1⟩)))
    · have HX := Lib.hid (show StepX g w.heap.size w1.heap.size w ByteArray.empty [] (.slice none 0 0) (w1.alloc (Obj.cells #[Value.string ByteArray.empty, Value.slice none 0 0] 70)) from
        ⟨((hO1.block _ (by simp) (by simp; omega)).trans HB.out |> fun hB : Blk w1 _ _ _ => hB.alloc _), Blk.new _ _ _, World.ownsRow_nil _ _ _ _, (HO.out.trans hO1).alloc _, hg, Nat.le_refl _, by have := hO1.size; simp at this; omega, by simp⟩)
      have HR := Lib.hid (hR1.alloc (Obj.cells #[Value.string ByteArray.empty, Value.slice none 0 0] 70))
      have HS := Lib.hid (show stepM s at_ = .error (x, y) by unfold stepM nameM; rw [hE])
      rename_i K hK
      refine wp_label (hK _ _ ?_)
      refine HF.out _ _ ⟨false, w.heap.size, w1.heap.size, s.size, ByteArray.empty, [], .slice none 0 0, stepFrame_of _ rfl rfl, HX.out, Nat.le_refl _, .inr ⟨rfl, x, y, p, HR.out, HS.out⟩⟩
    · have HX := Lib.hid (show StepX g w.heap.size w1.heap.size w (s.extract at_ (nameEnd s at_)) [] (.slice none 0 0) (w1.alloc (Obj.cells #[Value.string (s.extract at_ (nameEnd s at_)), Value.slice none 0 0] 70)) from
        ⟨((hO1.block _ (by simp) (by simp; omega)).trans HB.out |> fun hB : Blk w1 _ _ _ => hB.alloc _), Blk.new _ _ _, World.ownsRow_nil _ _ _ _, (HO.out.trans hO1).alloc _, hg, Nat.le_refl _, by have := hO1.size; simp at this; omega, by simp⟩)
      have HR := Lib.hid (hR1.alloc (Obj.cells #[Value.string (s.extract at_ (nameEnd s at_)), Value.slice none 0 0] 70))
      have HS := Lib.hid (show stepM s at_ = stepRest (s.extract at_ (nameEnd s at_)) (keysM s (nameEnd s at_) []) from stepM_rest (by unfold nameM; rw [hE]))
      rename_i K hK
      refine wp_label (hK _ _ ?_)
      exact HF.out _ _ ⟨true, w.heap.size, w1.heap.size, nameEnd s at_, s.extract at_ (nameEnd s at_), [], .slice none 0 0, stepFrame_of _ rfl rfl, HX.out, (nameEnd_le hle).2, .inl ⟨rfl, HR.out, Nat.zero_le _, HS.out⟩⟩
end Go.Proofs.YtkfofdmcggoonaaGreatDoor
