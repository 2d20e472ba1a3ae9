/-
  A slice of bytes turned to a string: an equation in every world in which it reads; no program in sight. Plain lemmas; no condition.
-/
import Derived.Test.YtjebaibcfmjinaaBlocks
import Derived.Laws.BytesString
import Derived.Laws.Cells
import Derived.Lib.BufferRead
namespace Go.Proofs.Ytjebaibcfmjinaa
open Go.RowKit

/-- The string of these bytes. -/
def str (l : List UInt8) : ByteArray := ⟨l.toArray⟩
theorem fold_push (l : List UInt8) : ∀ s : ByteArray, (l.map fun b => (b.toNat : Int)).foldl (fun r n => r.push (UInt8.ofNat n.toNat)) s = ⟨s.data ++ l.toArray⟩ := by
  induction l with
  | nil => intro s; simp
  | cons b l ih =>
    intro s
    rw [List.map_cons, List.foldl_cons, ih, Int.toNat_natCast, UInt8.ofNat_toNat]
    simp only [ByteArray.push]
    congr 1
    apply Array.ext'
    simp
theorem conv_rb {P : Program} {w : World} {B : Nat} {A : Option Addr} {l : List UInt8} (src dst e : TypeId) (c : Nat)
    (hs : P.underlying src = some (.slice e)) (he : P.underlying e = some (.int .u8)) (hd : P.underlying dst = some .string) (h : RB w B A l) :
    (convert src dst (.slice A l.length c)).run P w = .ok (.string (str l)) w := by
  rcases A with _ | ad
  · have hl : l = [] := by
      rcases Nat.eq_zero_or_pos l.length with h0 | h0
      · exact List.eq_nil_of_length_eq_zero h0
      · obtain ⟨_, h, _⟩ := h.2 h0
        cases h
    subst hl
    exact Lib.run_convert_nil_bytes w src dst e c hs he hd
  · rw [run_convert_bytes_string w src dst e (some ad) _ _ hs he hd]
    have hl : (loadCells ad l.length).run P w = .ok ((l.map fun b => (b.toNat : Int)).map (Value.int .u8)).toArray w := by
      have hc : ∀ j v, (bvs l)[j]? = some v → w.cell? (ad.add j) = some v := by
        intro j v hv
        rcases Nat.eq_zero_or_pos l.length with h0 | h0
        · rw [List.eq_nil_of_length_eq_zero h0] at hv
          simp [bvs] at hv
        · obtain ⟨_, h, _, hc⟩ := h.2 h0
          injection h with h
          subst h
          exact hc j v hv
      have := run_loadCells_list (P := P) w ad (bvs l) hc
      rw [bvs_len] at this
      rw [this]
      simp [bvs, bv, Function.comp_def]
    rw [run_bytesToString w ad _ _ _ hl, fold_push]
    simp [str]
theorem str_toList (l : List UInt8) : (str l).toList = l := by simp [str, ByteArray.toList_eq]
end Go.Proofs.Ytjebaibcfmjinaa
