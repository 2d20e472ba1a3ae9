/-
  What one ask leaves, for the law OctetReads: plain lemmas over memory; no condition.
-/
import Derived.Test.YtfkkfkfngdpgbaaOctDoNum
import Derived.Test.YtfkkfkfngdpgbaaOctMeth
namespace Go.Proofs.Ytfkkfkfngdpgbaa
open Go.RowKit

/-- Only blocks g and h, and what is new, have turned. -/
structure But2 (g h : Nat) (a w : World) : Prop where
  os : w.os = a.os
  tape : w.tape = a.tape
  output : w.output = a.output
  size : a.heap.size ≤ w.heap.size
  block : ∀ k, k < a.heap.size → k ≠ g → k ≠ h → w.heap[k]? = a.heap[k]?
theorem But2.of_only {g h : Nat} {a w : World} (ho : Only g a w) (p : Addr) (hp : p.block = h) (u : Value) : But2 g h a (w.setCell p u) :=
  ⟨ho.os, ho.tape, ho.output, by simpa [World.setCell] using ho.size, fun k hk hg hh => (Below.heap_setCell w p u k (by rw [hp]; exact hh)).trans (ho.block k hk (by simpa using hg))⟩
theorem But2.blk {g h k : Nat} {a w : World} {t : TypeId} {cs : Array Value} (hb : But2 g h a w) (hB : Blk a k t cs) (hg : k ≠ g) (hh : k ≠ h) : Blk w k t cs := (hb.block k hB.lt hg hh).trans hB
theorem But2.below {g h B : Nat} {a w : World} (hb : But2 g h a w) (hg : B ≤ g) (hh : B ≤ h) (hs : B ≤ a.heap.size) : Below B a w :=
  ⟨hb.os, hb.tape, hb.output, hb.size, fun k hk => hb.block k (by omega) (by omega) (by omega)⟩
theorem But2.ob {g h base : Nat} {e : TypeId} {a w : World} {v : Value} {l : List UInt8} (hb : But2 g h a w) (ho : OB a base e v l) (hg : g < base) (hh : v.ownBlock ≠ some h) : OB w base e v l := by
  obtain ⟨h1, h2⟩ := ho
  refine ⟨h1, ?_⟩
  rcases h2 with h2 | ⟨q, cap, cur, hv, hq, hc, h3⟩
  · exact .inl h2
  · refine .inr ⟨q, cap, cur, hv, hq, ?_, h3⟩
    have hlt : q < a.heap.size := Blk.lt (t := e) (cs := cur) hc
    rw [hb.block q hlt (by omega) (by rintro rfl; exact hh (by rw [hv]; rfl)), hc]
/-- What is told lies in block h; the reader has gone on. -/
structure Asked (a : World) (g h : Nat) (A : Option Addr) (c : Nat) (l : List UInt8) (m : Nat × List UInt8 × Int × Nat × Int) (w : World) : Prop where
  rd : Rd w g A c l m.2.2.2.1 m.2.2.2.2
  but : But2 g h a w
  got : ∃ A' c', Blk w h 50 #[.int .u32 (m.1 : Int), .slice A' m.2.1.length c', .int .i64 m.2.2.1] ∧ RB w w.heap.size A' m.2.1
theorem rd_set {w : World} {g : Nat} {A : Option Addr} {c : Nat} {l : List UInt8} {at_ : Nat} {err : Int} (h : Rd w g A c l at_ err) {p : Addr} (hp : g < p.block) (u : Value) : Rd (w.setCell p u) g A c l at_ err :=
  ⟨h.blk.far (by omega) u, Reads.setCell h.rb (by omega) u, h.lc, h.cm, h.le⟩
theorem asked_num {a w : World} {g h : Nat} {A : Option Addr} {c : Nat} {l : List UInt8} {m : List UInt8 × Nat × Int} {x : Nat} (hr : Rd w g A c l m.2.1 m.2.2) (ho : Only g a w) (hB : Blk a h 50 #[.int .u32 0, .slice none 0 0, .int .i64 0]) (hg : g < h) :
    Asked a g h A c l (x, [], 0, m.2.1, m.2.2) (w.setCell ⟨h, 0, none⟩ (.int .u32 (x : Int))) :=
  ⟨rd_set hr hg _, But2.of_only ho ⟨h, 0, none⟩ rfl _, none, 0, (hB.grown ho (by simp; omega)).set_ 0 _, Reads.none_⟩
theorem asked_raw {a w : World} {g h : Nat} {A : Option Addr} {c : Nat} {l : List UInt8} {m : List UInt8 × Nat × Int} {v : Value} {base : Nat} {e : TypeId} (hr : Rd w g A c l m.2.1 m.2.2) (ho : Only g a w) (hv : OB w base e v m.1) (hb : a.heap.size ≤ base) (hB : Blk a h 50 #[.int .u32 0, .slice none 0 0, .int .i64 0]) (hg : g < h) :
    Asked a g h A c l (0, m.1, 0, m.2.1, m.2.2) (w.setCell ⟨h, 1, none⟩ v) := by
  have hlt := hB.lt
  obtain ⟨A', c', rfl, _, _, hrb⟩ := hv.form
  refine ⟨rd_set hr hg _, But2.of_only ho ⟨h, 1, none⟩ rfl _, A', c', (hB.grown ho (by simp; omega)).set_ 1 _, ?_⟩
  refine ⟨by simp [bvs_len], fun hn => ?_⟩
  obtain ⟨ad, rfl, had, hc⟩ := hrb.2 hn
  refine ⟨ad, rfl, by simpa [World.setCell] using had, fun j u hu => ?_⟩
  obtain ⟨q, cap, hq, hqb, _⟩ := World.ownsRow.form hv hn
  injection hq with hq
  injection hq with hq
  subst hq
  rw [World.cell?_setCell_other w _ _ _ (by
    intro e
    have := congrArg Addr.block e
    rw [block_of_add] at this
    simp at this
    omega)]
  exact hc j u hu
theorem But2.rb {g h B : Nat} {a w : World} {A : Option Addr} {l : List UInt8} (hb : But2 g h a w) (hr : RB a B A l) (hB : B ≤ a.heap.size) (hne : ∀ ad, A = some ad → ad.block ≠ g ∧ ad.block ≠ h) : RB w B A l := by
  refine ⟨hr.1, fun hn => ?_⟩
  obtain ⟨ad, hA, had, hc⟩ := hr.2 hn
  refine ⟨ad, hA, had, fun j u hu => ?_⟩
  rw [World.cell?_of_block (hb.block _ (by rw [block_of_add]; omega) (by rw [block_of_add]; exact (hne ad hA).1) (by rw [block_of_add]; exact (hne ad hA).2))]
  exact hc j u hu
theorem asked_seek {a w : World} {g h : Nat} {A : Option Addr} {c : Nat} {l : List UInt8} {at_ : Nat} {err t : Int} (hr : Rd w g A c l at_ err) (ho : Only g a w) (hB : Blk a h 50 #[.int .u32 0, .slice none 0 0, .int .i64 0]) (hg : g < h) :
    Asked a g h A c l (0, [], t, at_, err) (w.setCell ⟨h, 2, none⟩ (.int .i64 t)) :=
  ⟨rd_set hr hg _, But2.of_only ho ⟨h, 2, none⟩ rfl _, none, 0, (hB.grown ho (by simp; omega)).set_ 2 _, Reads.none_⟩
theorem ob_far {w : World} {base : Nat} {e : TypeId} {v : Value} {l : List UInt8} (ho : OB w base e v l) {p : Addr} (hp : v.ownBlock ≠ some p.block) (u : Value) : OB (w.setCell p u) base e v l := by
  obtain ⟨h1, h2⟩ := ho
  refine ⟨h1, ?_⟩
  rcases h2 with h2 | ⟨q, cap, cur, hv, hq, hc, h3⟩
  · exact .inl h2
  · exact .inr ⟨q, cap, cur, hv, hq, (Below.heap_setCell w p u q (by rintro rfl; exact hp (by rw [hv]; rfl))).trans hc, h3⟩
set_option maxHeartbeats 400000 in
theorem at_cell (g : Nat) (x : Int) (w : World) (c1 : w.cell? ⟨g, 1, none⟩ = some (.int .i64 x)) :
    Calls Try.prog 24 #[.pointer (some ⟨g, 0, none⟩)] w fun e w' => e = .returned (.int .i64 x) ∧ w = w' := by
  go_enter Try.func24, Try.ntmps24
  go_wp2
  go_ret
  exact ⟨rfl, rfl⟩
set_option maxHeartbeats 400000 in
theorem err_cell (g : Nat) (x : Int) (w : World) (c2 : w.cell? ⟨g, 2, none⟩ = some (.int .i64 x)) :
    Calls Try.prog 20 #[.pointer (some ⟨g, 0, none⟩)] w fun e w' => e = .returned (.int .i64 x) ∧ w = w' := by
  go_enter Try.func20, Try.ntmps20
  go_wp2
  go_ret
  exact ⟨rfl, rfl⟩
end Go.Proofs.Ytfkkfkfngdpgbaa
