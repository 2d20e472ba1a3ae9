/-
  The walk of pool.Pool: the pool of lists of texts. Condition: at most 10000000 texts in all, at most 1000 lists.
-/
import Derived.Test.YtagekiaejhjpnaaConcatS
import Derived.Test.YtagekiaejhjpnaaSortStr
import Derived.Test.YtagekiaejhjpnaaMapG
namespace Go.Proofs.Ytagekiaejhjpnaa
open Go.RowKit

theorem law_str : Maps.Keyed Try.prog 9 := Maps.string_keyed Try.underlying9
abbrev MapS (w : World) (b n m : Nat) (f : ByteArray → Option Value) : Prop := MapG Try.prog 9 strL strOk w b n m f
theorem key_str {s : ByteArray} (h : s.size ≤ maxLen) : keyOf Try.prog 9 (.string s) = some (strL s) := Go.WideMaps.keyOf_string_mk Try.underlying9 h
theorem zero_bool (w : World) : (zeroValue 4).run Try.prog w = .ok (.bool false) w := by kernel_rfl
theorem own_map {κ : Type} {P : Program} {k : TypeId} {kl : κ → Lit} {ok : κ → Prop} {w : World} {b n m : Nat} {f : κ → Option Value} {base : Nat} {e : TypeId} {size c : Nat} {v : Value} {xs : List Value} (h : MapG P k kl ok w b n m f) (ho : w.ownsRow base e size v c xs) : v.ownBlock ≠ some b := by
  obtain ⟨D, ⟨es, clock, hb, _⟩, _⟩ := h
  obtain ⟨h1, h2⟩ := ho
  rcases h2 with ⟨rfl, -⟩ | ⟨g, cap, cur, rfl, -, hh, -⟩
  · simp [Value.ownBlock]
  · intro e
    simp only [Value.ownBlock, Option.some.injEq] at e
    subst e
    rw [hb] at hh
    cases hh
/-- What is read beside a map that is written. -/
theorem reads_map {κ : Type} {P : Program} {k : TypeId} {kl : κ → Lit} {ok : κ → Prop} {w w' : World} {b n m B size c : Nat} {f : κ → Option Value} {A : Option Addr} {xs : List Value} (hm : MapG P k kl ok w b n m f) (h : Reads w B size A c xs) (hO : Only b w w') (hB : B ≤ w.heap.size) : Reads w' B size A c xs := by
  obtain ⟨D, ⟨es, clock, hb, _⟩, _⟩ := hm
  refine ⟨h.1, fun hc => ?_⟩
  obtain ⟨ad, rfl, had, hcl⟩ := h.2 hc
  refine ⟨ad, rfl, had, fun j u hj => ?_⟩
  have h1 := hcl j u hj
  have hne : (ad.add j).block ≠ b := fun e => by
    simp [World.cell?, e, hb] at h1
  exact (World.cell?_of_block (hO.block _ (by rw [block_of_add]; omega) (fun e => hne (Option.some.inj e)))).trans h1
/-- Lists of texts, read. -/
def ListsT (w : World) (A : Option Addr) (ls : List (Value × List ByteArray)) : Prop :=
  Reads w w.heap.size 1 A ls.length (ls.map (·.1)) ∧ ∀ x ∈ ls, Txts w w.heap.size x.1 x.2
def allT (ls : List (Value × List ByteArray)) : List ByteArray := ls.flatMap (·.2)
theorem ListsT.more {w w' : World} {A : Option Addr} {ls : List (Value × List ByteArray)} (h : ListsT w A ls) (hb : Below w.heap.size w w') : ListsT w' A ls :=
  ⟨(h.1.below hb).more hb.size, fun x hx => (h.2 x hx).on hb⟩
theorem str_one {l : List ByteArray} : ∀ u ∈ l.map Value.string, u.oneCell' = true := by
  intro u hu
  obtain ⟨x, -, rfl⟩ := List.mem_map.1 hu
  rfl
theorem lists_at {w : World} {A : Option Addr} {ls : List (Value × List ByteArray)} (h : ListsT w A ls) : ListsAtS w A (ls.map fun x => (x.1, x.2.length, x.2.map Value.string)) ∧ sumLS (ls.map fun x => (x.1, x.2.length, x.2.map Value.string)) = (allT ls).length ∧ flatLS (ls.map fun x => (x.1, x.2.length, x.2.map Value.string)) = (allT ls).map Value.string := by
  refine ⟨⟨by simpa [Function.comp_def] using h.1, fun x hx => ?_⟩, ?_, ?_⟩
  · obtain ⟨y, hy, rfl⟩ := List.mem_map.1 hx
    exact ⟨h.2 y hy, str_one⟩
  · clear h
    induction ls with
    | nil => rfl
    | cons x ls ih => simp only [sumLS, allT, List.map_cons, List.sum_cons, List.flatMap_cons, List.length_append] at ih ⊢; omega
  · clear h
    induction ls with
    | nil => rfl
    | cons x ls ih => simp only [flatLS, allT, List.map_cons, List.flatMap_cons, List.map_append] at ih ⊢; rw [ih]
def PoolPost (l : List ByteArray) (w : World) (e : Ending) (w' : World) : Prop := (∃ v, e = .returned v ∧ w'.ownsRow w.heap.size 9 1 v (poolL bl l).length ((poolL bl l).map Value.string)) ∧ Below w.heap.size w w'
/-- The texts met so far, each once. -/
def MetT (l : List ByteArray) (p : Nat) (out : List ByteArray) : Prop := out.Nodup ∧ (∀ x, x ∈ out ↔ x ∈ l.take p) ∧ out.length ≤ p
def metB (out : List ByteArray) (s : ByteArray) : Bool := out.any fun x => decide (x = s)
theorem metB_iff {out : List ByteArray} {s : ByteArray} : metB out s = true ↔ s ∈ out := by simp [metB]
theorem metB_not {out : List ByteArray} {s : ByteArray} (h : s ∉ out) : metB out s = false := by
  cases e : metB out s
  · rfl
  · exact absurd (metB_iff.1 e) h
def metF (out : List ByteArray) : ByteArray → Option Value := fun s => if metB out s = true then some (.bool true) else none
theorem metF_put (out : List ByteArray) (x : ByteArray) : putF (metF out) x (.bool true) = metF (out ++ [x]) := by
  funext s
  unfold putF metF
  by_cases h : s = x
  · rw [if_pos h, if_pos (metB_iff.2 (by simp [h]))]
  · rw [if_neg h]
    by_cases h2 : s ∈ out
    · rw [if_pos (metB_iff.2 h2), if_pos (metB_iff.2 (by simp [h2]))]
    · rw [if_neg (by simp [metB_not h2]), if_neg (by simp [metB_not (show s ∉ out ++ [x] by simp [h2, h])])]
theorem MetT.skip {l : List ByteArray} {p : Nat} {out : List ByteArray} {x : ByteArray} (h : MetT l p out) (hx : l[p]? = some x) (hm : x ∈ out) : MetT l (p + 1) out := by
  refine ⟨h.1, fun y => (h.2.1 y).trans ?_, Nat.le_succ_of_le h.2.2⟩
  rw [List.take_add_one, hx]
  simp only [Option.toList_some, List.mem_append, List.mem_singleton]
  exact ⟨.inl, fun hy => hy.elim id fun e => (h.2.1 y).1 (by rw [e]; exact hm)⟩
theorem MetT.put {l : List ByteArray} {p : Nat} {out : List ByteArray} {x : ByteArray} (h : MetT l p out) (hx : l[p]? = some x) (hm : x ∉ out) : MetT l (p + 1) (out ++ [x]) := by
  refine ⟨List.nodup_append.2 ⟨h.1, by simp, fun a ha b hb e => by simp at hb; subst hb; exact hm (by rw [← e]; exact ha)⟩, fun y => ?_, by have := h.2.2; simp; omega⟩
  rw [List.take_add_one, hx]
  simp only [Option.toList_some, List.mem_append, List.mem_singleton, h.2.1 y]
set_option maxHeartbeats 8000000 in
theorem pool_any (A : Option Addr) (c : Nat) (ls : List (Value × List ByteArray)) (w : World) (hl : ListsT w A ls) (hn : (allT ls).length ≤ 10000000) (hms : ls.length ≤ 1000) (hsz : ∀ x ∈ allT ls, x.size ≤ maxLen) :
    Calls Try.prog 11 #[.slice A ls.length c] w (PoolPost (allT ls) w) := by
  have hmm := @run_makeMap Try.prog
  have HB0 := Lib.hid ((Below.refl _ w).alloc (Nat.le_refl _) (.map #[] 0))
  obtain ⟨h1, h2, h3⟩ := lists_at (hl.more ((Below.refl _ w).alloc (Nat.le_refl _) (.map #[] 0)))
  have HC := Lib.hid (concat_anyS A ls.length c _ (w.alloc (.map #[] 0)) (by simp) h1 (by rw [h2]; exact hn) hms)
  have HFL := Lib.hid (And.intro h2 h3)
  have HM0 := Lib.hid (show MapS (w.alloc (.map #[] 0)) w.heap.size 0 0 (metF []) from by
    have := MapG.made w Try.prog 9 strL strOk
    have e : metF [] = fun _ => none := by funext s; simp [metF, metB]
    rw [e]
    exact this)
  have HSZ := Lib.hid hsz
  have hm1 : (ls.length : Int) ≤ 1000 := by omega
  clear h1 h2 h3 hl hsz
  generalize allT ls = l at *
  obtain ⟨i0, hi0, hz0, hz1, hz2⟩ := info_parts str_info
  go_enter Try.func11, Try.ntmps11
  go_wp2_with (go_at_call 28; go_loud (refine HC.out.mono ?_; rintro en w1 ⟨v1, rfl, ho1, hb1⟩; rw [HFL.out.1, HFL.out.2] at ho1; obtain ⟨A1, c1, rfl, hc1, hm1, hr1⟩ := own_form ho1; have HB1 := Lib.hid hb1; have HR1 := Lib.hid hr1; clear ho1 hb1 hr1 hc1 hm1))
  clear hmm HC HFL
  have HMP := Lib.hid (HM0.out.on HB1.out)
  have HBB := Lib.hid (show Below w.heap.size w w1 from HB0.out.trans (HB1.out.mono (by simp)))
  clear HM0 HB0 HB1
  generalize hn0 : l.length = n at *
  have HN := Lib.hid hn0
  have hn1 : (n : Int) ≤ 10000000 := by omega
  clear hn0
  obtain ⟨w0, hw0⟩ : ∃ w0, w0 = w := ⟨_, rfl⟩
  go_loopw [4, 11] (fun ov iv wr => ∃ (p : Nat) (out : List ByteArray), iv = .int .i64 (p : Int) ∧ p ≤ n ∧ MetT l p out ∧ wr.ownsRow w1.heap.size 9 1 ov out.length (out.map Value.string) ∧ MapS wr w.heap.size p out.length (metF out) ∧ Only w.heap.size w1 wr) (fun _ iv _ => n - (Lib.intOf iv).toNat)
  case atStart => exact ⟨0, [], rfl, Nat.zero_le _, ⟨List.nodup_nil, fun x => by simp, Nat.le_refl _⟩, World.ownsRow_nil _ _ _ _, HMP.out, Only.refl _ _⟩
  case round =>
    obtain ⟨p, out, rfl, hp, hME, hO, hM, hOn⟩ := hrel
    have HME := Lib.hid hME
    have HO := Lib.hid hO
    have HM := Lib.hid hM
    have HON := Lib.hid hOn
    clear hME hO hM hOn
    have hol : (out.length : Int) ≤ 10000000 := by have := HME.out.2.2; omega
    by_cases hlt : p < n
    · obtain ⟨x, hx⟩ := at_lt (l := l) (p := p) (by have := HN.out; omega)
      have hq : (p : Int) < (n : Int) := by omega
      obtain ⟨b1, o1, rfl, hb1, hcl1⟩ := (reads_map HMP.out HR1.out HON.out (Nat.le_refl _)).spot (by omega) (by omega)
      have r0 := hcl1 _ _ (str_at hx)
      have hsx : x.size ≤ maxLen := HSZ.out x (List.mem_of_getElem? hx)
      have HX := Lib.hid hx
      have hlk := HM.out.look law_str Try.underlying57 (zero_bool wr) hsx (key_str hsx)
      clear hcl1 hx
      by_cases hxo : x ∈ out
      · have HXO := Lib.hid hxo
        rw [show (metF out x).getD (.bool false) = .bool true by simp [metF, metB_iff.2 hxo]] at hlk
        clear hxo hsx
        go_wp2
        go_roundw
        case rel => exact ⟨p + 1, out, by go_num, hlt, HME.out.skip HX.out HXO.out, HO.out, HM.out.mono (Nat.le_succ _), HON.out⟩
        case measure => simp [Lib.intOf]; omega
      · have HXO := Lib.hid hxo
        rw [show (metF out x).getD (.bool false) = .bool false by simp [metF, metB_not hxo]] at hlk
        obtain ⟨w2, hrun, hM2, hg2⟩ := HM.out.store law_str Try.underlying57 (by simp only [maxLen]; omega) strL_inj hsx (key_str hsx) (.bool true)
        rw [metF_put, show (metF out x).isSome = false by simp [metF, metB_not hxo]] at hM2
        have HM2 := Lib.hid hM2
        have HG2 := Lib.hid hg2
        have HO2 := Lib.hid (HO.out.kept hg2 (.inr (own_map HM.out HO.out)))
        clear hxo hsx hM2 hg2
        have HA := Lib.hid (And.intro (HO2.out.alloc (.cells #[.string x] 9)) (And.intro (reads_new w2 #[.string x] 9 1 1 rfl) (show w1.heap.size ≤ (w2.alloc (.cells #[.string x] 9)).heap.size by have := HON.out.size; have := HG2.out.size; simp; omega)))
        go_wp2_with (at_builtin; go_loud (refine wpList_append_any _ rfl (.tmp 21) (.tmp 23) _ rfl w1.heap.size 9 i0 _ 1 16 Try.underlying22 hi0 hz0 hz1 hz2 rfl (by omega) _ out.length (out.map Value.string) rfl HA.out.1 (w2.heap.size + 1) (some ⟨w2.heap.size, 0, none⟩) 1 1 [.string x] rfl HA.out.2.1 (by simp [Value.oneCell']) (by simp only [maxLen]; omega) (by omega) HA.out.2.2 ?_); intro v3 w3 hown3 hg3 hat3; have HOW := Lib.hid hown3; have HG := Lib.hid hg3; clear hown3 hg3 hat3)
        go_roundw
        case rel =>
          refine ⟨p + 1, out ++ [x], by go_num, hlt, HME.out.put HX.out HXO.out, by simpa using HOW.out, ?_, ?_⟩
          · have := (HM2.out.alloc (.cells #[.string x] 9)).kept HG.out (fun e => own_map (HM2.out.alloc (.cells #[.string x] 9)) HA.out.1 e.symm)
            simpa using this
          · have h1 : Only w.heap.size w1 w2 := HON.out.trans HG2.out
            have h2 := h1.alloc (.cells #[.string x] 9)
            refine ⟨HG.out.os.trans h2.os, HG.out.tape.trans h2.tape, HG.out.output.trans h2.output, Nat.le_trans h2.size HG.out.size, fun k hk hne => (HG.out.block k (Nat.lt_of_lt_of_le hk h2.size) (fun e => ?_)).trans (h2.block k hk hne)⟩
            have := (HA.out.1.lt k e.symm).1
            omega
        case measure => simp [Lib.intOf]; omega
    · obtain rfl : p = n := by omega
      have hq : ¬ (p : Int) < (p : Int) := by omega
      have HPE := Lib.hid (show sortT out = poolL bl l from (sortT_pool HME.out.1).trans (poolL_congr blT fun x => by rw [HME.out.2.1 x, List.take_of_length_le (by rw [HN.out]; exact Nat.le_refl _)]))
      have HPL := Lib.hid (show (poolL bl l).length = out.length by rw [← HPE.out, sortT_len])
      have HS := Lib.hid (fun v (h : wr.ownsRow w1.heap.size 9 1 v out.length (out.map Value.string)) => sortS_any v out wr w1.heap.size 9 h (by omega))
      go_wp2_with (go_at_call 29; go_loud (refine (HS.out _ HO.out).mono ?_; rintro en w3 ⟨rfl, ho3, hg3⟩; rw [HPE.out] at ho3; have HO3 := Lib.hid ho3; have HG3 := Lib.hid hg3; clear ho3 hg3))
      go_ret
      refine ⟨⟨_, rfl, by rw [HPL.out]; exact own_base HO3.out HBB.out.size⟩, ?_⟩
      have h1 : Below w.heap.size w wr := ⟨HON.out.os.trans HBB.out.os, HON.out.tape.trans HBB.out.tape, HON.out.output.trans HBB.out.output, Nat.le_trans HBB.out.size HON.out.size, fun k hk => (HON.out.block k (Nat.lt_of_lt_of_le hk HBB.out.size) (fun e => by cases e; omega)).trans (HBB.out.block k hk)⟩
      exact h1.grown HG3.out h1.size (fun k hk => Nat.le_trans HBB.out.size (HO.out.lt k hk).1)
end Go.Proofs.Ytagekiaejhjpnaa
