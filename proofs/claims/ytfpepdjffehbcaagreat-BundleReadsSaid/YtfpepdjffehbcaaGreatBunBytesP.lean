/-
  A bundle's bytes tell it, plainly: two bundles that may be and have the same bytes are one. No condition, no program in sight.
-/
import Derived.Test.YtfpepdjffehbcaaGreatBunRows
import Derived.Laws.BitsAllLaws
set_option linter.unusedVariables false
set_option linter.unusedSimpArgs false
namespace Go.Proofs.YtfpepdjffehbcaaGreat
open Go.RowKit

theorem le4_split {x y : Nat} {r s : List UInt8} (hx : x < 4294967296) (hy : y < 4294967296) (h : le 4 x ++ r = le 4 y ++ s) : x = y ∧ r = s := by
  obtain ⟨h1, h2⟩ := List.append_inj h (by rw [le_len, le_len])
  refine ⟨?_, h2⟩
  have := congrArg num h1
  rw [num_le, num_le, show 256 ^ 4 = 4294967296 from rfl, Nat.mod_eq_of_lt hx, Nat.mod_eq_of_lt hy] at this
  exact this
/-- What is put by f can be parted from what stands behind it. -/
def Parts {α : Type} (f f' : α → List UInt8) (S S' : α → Prop) : Prop := ∀ x y r s, S x → S' y → f x ++ r = f' y ++ s → x = y ∧ r = s
theorem parts_list {α : Type} {f f' : α → List UInt8} {S S' : α → Prop} (h : Parts f f' S S') : ∀ (l m : List α) (r s : List UInt8), l.length = m.length → (∀ x ∈ l, S x) → (∀ x ∈ m, S' x) → l.flatMap f ++ r = m.flatMap f' ++ s → l = m ∧ r = s
  | [], [], r, s, _, _, _, e => ⟨rfl, e⟩
  | x :: l, y :: m, r, s, hl, hx, hy, e => by
    rw [List.flatMap_cons, List.flatMap_cons, List.append_assoc, List.append_assoc] at e
    obtain ⟨e1, e2⟩ := h x y _ _ (hx x (by simp)) (hy y (by simp)) e
    obtain ⟨e3, e4⟩ := parts_list h l m r s (by simpa using hl) (fun z hz => hx z (by simp [hz])) (fun z hz => hy z (by simp [hz])) e2
    exact ⟨by rw [e1, e3], e4⟩
  | [], _ :: _, _, _, hl, _, _, _ => by simp at hl
  | _ :: _, [], _, _, hl, _, _, _ => by simp at hl
theorem textBy_parts : Parts textBy textBy (fun s => s.size < 4294967296) (fun s => s.size < 4294967296) := by
  intro x y r s hx hy e
  unfold textBy at e
  rw [List.append_assoc, List.append_assoc] at e
  obtain ⟨h1, h2⟩ := le4_split hx hy e
  obtain ⟨h3, h4⟩ := List.append_inj h2 (by rw [← Lib.size_eq, ← Lib.size_eq, h1])
  exact ⟨ByteArray.ext (Array.toList_inj.1 h3), h4⟩
def RowSm (r : RowI) : Prop := (0 ≤ r.1 ∧ r.1 < 4294967296) ∧ 0 ≤ r.2 ∧ r.2 < 4294967296
theorem rowBy_parts : Parts (fun r : RowI => le 4 r.1.toNat ++ le 4 r.2.toNat) (fun r : RowI => le 4 r.1.toNat ++ le 4 r.2.toNat) RowSm RowSm := by
  intro x y r s hx hy e
  obtain ⟨⟨a1, a2⟩, a3, a4⟩ := hx
  obtain ⟨⟨b1, b2⟩, b3, b4⟩ := hy
  simp only [List.append_assoc] at e
  obtain ⟨h1, h2⟩ := le4_split (by omega) (by omega) e
  obtain ⟨h3, h4⟩ := le4_split (by omega) (by omega) h2
  exact ⟨Prod.ext (by omega) (by omega), h4⟩
def TabSm (t : List RowI) : Prop := t.length < 4294967296 ∧ ∀ r ∈ t, RowSm r
theorem tabBy_parts : Parts tabBy tabBy TabSm TabSm := by
  intro x y r s hx hy e
  unfold tabBy at e
  rw [List.append_assoc, List.append_assoc] at e
  obtain ⟨h1, h2⟩ := le4_split hx.1 hy.1 e
  exact parts_list rowBy_parts x y r s h1 hx.2 hy.2 h2
theorem idx_inj {L : List ByteArray} {s t : ByteArray} (hs : s ∈ L) (ht : t ∈ L) (h : idx L s = idx L t) : s = t := by
  have h1 := idx_get hs
  rw [h, idx_get ht] at h1
  exact (Option.some.inj h1).symm
theorem tix_inj {L : List (List RowI)} {s t : List RowI} (hs : s ∈ L) (ht : t ∈ L) (h : tix L s = tix L t) : s = t := by
  have h1 := tix_get hs
  rw [h, tix_get ht] at h1
  exact (Option.some.inj h1).symm
theorem tix_lt {L : List (List RowI)} {t : List RowI} (h : t ∈ L) : tix L t < L.length := (List.getElem?_eq_some_iff.1 (tix_get h)).1
theorem idxBy_parts {T : List ByteArray} (hT : T.length < 4294967296) : Parts (fun s => le 4 (idx T s)) (fun s => le 4 (idx T s)) (fun s => s ∈ T) (fun s => s ∈ T) := by
  intro x y r s hx hy e
  obtain ⟨h1, h2⟩ := le4_split (Nat.lt_trans (idx_lt hx) hT) (Nat.lt_trans (idx_lt hy) hT) e
  exact ⟨idx_inj hx hy h1, h2⟩
/-- A Book whose texts, paths and tables stand where they must. -/
def BookIn (T P : List ByteArray) (tabs : List (List RowI)) (b : PStep) : Prop := b.1 ∈ T ∧ (groupsB b.2).length < 4294967296 ∧ (∀ g ∈ groupsB b.2, g ∈ T ∧ rowsB T P b.2 g ∈ tabs) ∧ (∀ v ∈ b.2, v.1 ∈ P ∧ v.2 ∈ T) ∧ RiseL (fun x y => bl x.1 y.1) b.2
theorem rowsB_mem {T P : List ByteArray} {vs : List PKey} {g : ByteArray} {r : RowI} : r ∈ rowsB T P vs g ↔ ∃ v ∈ vs, grp v.1 = g ∧ r = ((idx P v.1 : Int), (idx T v.2 : Int)) := by
  unfold rowsB
  simp only [List.mem_map, List.mem_filter, decide_eq_true_eq]
  exact ⟨fun ⟨v, ⟨h1, h2⟩, h3⟩ => ⟨v, h1, h2, h3.symm⟩, fun ⟨v, h1, h2, h3⟩ => ⟨v, ⟨h1, h2⟩, h3.symm⟩⟩
theorem groups_mem {vs : List PKey} {v : PKey} (hv : v ∈ vs) : grp v.1 ∈ groupsB vs := (poolL_mem _ _).2 (List.mem_map.2 ⟨v, hv, rfl⟩)
theorem vals_sub {T P : List ByteArray} {vs us : List PKey} (h1 : ∀ v ∈ vs, v.1 ∈ P ∧ v.2 ∈ T) (h2 : ∀ v ∈ us, v.1 ∈ P ∧ v.2 ∈ T) (he : ∀ g ∈ groupsB vs, rowsB T P vs g = rowsB T P us g) : ∀ v ∈ vs, v ∈ us := by
  intro v hv
  have hr : ((idx P v.1 : Int), (idx T v.2 : Int)) ∈ rowsB T P vs (grp v.1) := rowsB_mem.2 ⟨v, hv, rfl, rfl⟩
  rw [he _ (groups_mem hv)] at hr
  obtain ⟨u, hu, -, e⟩ := rowsB_mem.1 hr
  have e1 : idx P v.1 = idx P u.1 := by have := congrArg Prod.fst e; simp only at this; omega
  have e2 : idx T v.2 = idx T u.2 := by have := congrArg Prod.snd e; simp only at this; omega
  have : v = u := Prod.ext (idx_inj (h1 v hv).1 (h2 u hu).1 e1) (idx_inj (h1 v hv).2 (h2 u hu).2 e2)
  rw [this]; exact hu
theorem rise_same {vs us : List PKey} (h1 : RiseL (fun x y => bl x.1 y.1) vs) (h2 : RiseL (fun x y => bl x.1 y.1) us) (h : ∀ v, v ∈ vs ↔ v ∈ us) : vs = us := by
  have irr : ∀ x : PKey, bl x.1 x.1 = false := fun x => blT.irr x.1
  have nd : ∀ {l : List PKey}, RiseL (fun x y => bl x.1 y.1) l → l.Nodup := fun {l} hl => List.Pairwise.imp (fun {a b} hab e => by simp only at hab; rw [e, irr] at hab; cases hab) hl
  refine perm_rising (fun x y : PKey => bl x.1 y.1) us vs ((List.perm_ext_iff_of_nodup (nd h1) (nd h2)).2 h) h2 (List.Pairwise.imp (fun {a b} hab => ?_) h1)
  cases hba : bl b.1 a.1 with
  | false => rfl
  | true =>
    have := blT.tr _ _ _ hab hba
    rw [blT.irr] at this
    cases this
theorem bookBy_parts {T P : List ByteArray} {tabs : List (List RowI)} (hT : T.length < 4294967296) (hN : tabs.length < 4294967296) : Parts (bookBy T P tabs) (bookBy T P tabs) (BookIn T P tabs) (BookIn T P tabs) := by
  intro x y r s hx hy e
  obtain ⟨a1, a2, a3, a4, a5⟩ := hx
  obtain ⟨b1, b2, b3, b4, b5⟩ := hy
  unfold bookBy at e
  simp only [List.append_assoc] at e
  obtain ⟨h1, h2⟩ := le4_split (Nat.lt_trans (idx_lt a1) hT) (Nat.lt_trans (idx_lt b1) hT) e
  obtain ⟨h3, h4⟩ := le4_split a2 b2 h2
  have hp : Parts (fun g => le 4 (idx T g) ++ le 4 (tix tabs (rowsB T P x.2 g))) (fun g => le 4 (idx T g) ++ le 4 (tix tabs (rowsB T P y.2 g))) (fun g => g ∈ groupsB x.2) (fun g => g ∈ groupsB y.2) := by
    intro g k r s hg hk e
    simp only [List.append_assoc] at e
    obtain ⟨k1, k2⟩ := le4_split (Nat.lt_trans (idx_lt (a3 g hg).1) hT) (Nat.lt_trans (idx_lt (b3 k hk).1) hT) e
    obtain ⟨k3, k4⟩ := le4_split (Nat.lt_trans (tix_lt (a3 g hg).2) hN) (Nat.lt_trans (tix_lt (b3 k hk).2) hN) k2
    exact ⟨idx_inj (a3 g hg).1 (b3 k hk).1 k1, k4⟩
  obtain ⟨h5, h6⟩ := parts_list hp _ _ r s h3 (fun _ h => h) (fun _ h => h) h4
  refine ⟨Prod.ext (idx_inj a1 b1 h1) ?_, h6⟩
  -- the numbers of the tables agree one by one: so do the tables
  have hrow : ∀ g ∈ groupsB x.2, rowsB T P x.2 g = rowsB T P y.2 g := by
    intro g hg
    have hq : ∀ (l : List ByteArray) (r s : List UInt8), (∀ g ∈ l, g ∈ groupsB x.2) → (l.flatMap fun g => le 4 (idx T g) ++ le 4 (tix tabs (rowsB T P x.2 g))) ++ r = (l.flatMap fun g => le 4 (idx T g) ++ le 4 (tix tabs (rowsB T P y.2 g))) ++ s → ∀ g ∈ l, rowsB T P x.2 g = rowsB T P y.2 g := by
      intro l
      induction l with
      | nil => intro r s _ _ g hg; cases hg
      | cons k l ih =>
        intro r s hl e g hg
        rw [List.flatMap_cons, List.flatMap_cons] at e
        simp only [List.append_assoc] at e
        have hk := hl k (by simp)
        obtain ⟨k1, k2⟩ := le4_split (Nat.lt_trans (idx_lt (a3 k hk).1) hT) (Nat.lt_trans (idx_lt (a3 k hk).1) hT) e
        obtain ⟨k3, k4⟩ := le4_split (Nat.lt_trans (tix_lt (a3 k hk).2) hN) (Nat.lt_trans (tix_lt (b3 k (by rw [← h5]; exact hk)).2) hN) k2
        rcases List.mem_cons.1 hg with rfl | hg
        · exact tix_inj (a3 g hk).2 (b3 g (by rw [← h5]; exact hk)).2 k3
        · exact ih r s (fun z hz => hl z (by simp [hz])) k4 g hg
    refine hq (groupsB x.2) r s (fun _ h => h) ?_ g hg
    rw [h4, h5]
  have hrow2 : ∀ g ∈ groupsB y.2, rowsB T P y.2 g = rowsB T P x.2 g := fun g hg => (hrow g (by rw [h5]; exact hg)).symm
  exact rise_same a5 b5 fun v => ⟨fun hv => vals_sub a4 b4 hrow v hv, fun hv => vals_sub b4 a4 hrow2 v hv⟩
/-- A bundle whose numbers have room in four bytes. -/
def BunSm (l : List PStep) : Prop := l.length < 4294967296 ∧ (textsP l).length < 4294967296 ∧ (pathsP l).length < 4294967296 ∧ (tabsB l).length < 4294967296 ∧ (∀ s ∈ textsP l, s.size < 4294967296) ∧ (∀ t ∈ tabsB l, TabSm t) ∧ (∀ b ∈ l, (groupsB b.2).length < 4294967296)
theorem book_in {l : List PStep} (h : (checkB l).1 = 0) (hs : BunSm l) {b : PStep} (hb : b ∈ l) : BookIn (textsP l) (pathsP l) (tabsB l) b := by
  obtain ⟨-, -, h3⟩ := checkB_ok h
  refine ⟨(poolL_mem _ _).2 (words_name hb), hs.2.2.2.2.2.2 b hb, fun g hg => ⟨?_, ?_⟩, fun v hv => ⟨(poolL_mem _ _).2 (paths_val hb hv), (poolL_mem _ _).2 (words_val hb hv).2.2⟩, (h3 b hb).2.1⟩
  · have hg2 := (poolL_mem _ _).1 hg
    obtain ⟨v, hv, rfl⟩ := List.mem_map.1 hg2
    exact (poolL_mem _ _).2 (words_val hb hv).1
  · exact (poolL_mem _ _).2 (List.mem_flatMap.2 ⟨b, hb, List.mem_map.2 ⟨g, hg, rfl⟩⟩)
theorem paths_words {l : List PStep} {s : ByteArray} (h : s ∈ pathsP l) : s ∈ textsP l := by
  obtain ⟨b, hb, hs⟩ := List.mem_flatMap.1 ((poolL_mem _ _).1 h)
  obtain ⟨v, hv, rfl⟩ := List.mem_map.1 hs
  exact (poolL_mem _ _).2 (words_val hb hv).2.1
theorem body_inj {a b : List PStep} (ha : (checkB a).1 = 0) (hb : (checkB b).1 = 0) (sa : BunSm a) (sb : BunSm b) (e : bodyB a = bodyB b) : a = b := by
  have i1 := fun x hx => book_in ha sa (b := x) hx
  have i2 := fun x hx => book_in hb sb (b := x) hx
  obtain ⟨a1, a2, a3, a4, a5, a6, a7⟩ := sa
  obtain ⟨b1, b2, b3, b4, b5, b6, b7⟩ := sb
  unfold bodyB at e
  simp only [List.append_assoc, List.append_cancel_left_eq] at e
  obtain ⟨e1, e⟩ := le4_split a2 b2 e
  obtain ⟨eT, e⟩ := parts_list textBy_parts _ _ _ _ e1 a5 b5 e
  obtain ⟨e2, e⟩ := le4_split a3 b3 e
  rw [← eT] at e
  obtain ⟨eP, e⟩ := parts_list (idxBy_parts a2) _ _ _ _ e2 (fun s h => paths_words h) (fun s h => by rw [eT]; exact paths_words h) e
  obtain ⟨e3, e⟩ := le4_split a4 b4 e
  obtain ⟨eN, e⟩ := parts_list tabBy_parts _ _ _ _ e3 a6 b6 e
  obtain ⟨e4, e⟩ := le4_split a1 b1 e
  rw [← eP, ← eN] at e
  rw [← eT, ← eP, ← eN] at i2
  have e5 : a.flatMap (bookBy (textsP a) (pathsP a) (tabsB a)) ++ [] = b.flatMap (bookBy (textsP a) (pathsP a) (tabsB a)) ++ [] := by rw [e]
  exact (parts_list (bookBy_parts a2 a4) _ _ _ _ e4 i1 i2 e5).1
end Go.Proofs.YtfpepdjffehbcaaGreat
/-
  The checksum in plain numbers; no program in sight, no condition.
-/
set_option linter.unusedVariables false
set_option linter.unusedSimpArgs false
namespace Go.Proofs.YtfpepdjffehbcaaGreat

/-- One bit of the checksum. -/
def crc1 (c : Nat) : Nat := if c % 2 = 1 then c / 2 ^^^ 3988292384 else c / 2
def crcN : Nat → Nat → Nat
  | 0, c => c
  | k + 1, c => crc1 (crcN k c)
/-- One byte. -/
def crcB (c : Nat) (b : UInt8) : Nat := crcN 8 (c ^^^ b.toNat)
def crcRaw (l : List UInt8) : Nat := l.foldl crcB 4294967295
def crc (l : List UInt8) : Nat := 4294967295 - crcRaw l

theorem crc1_lt {c : Nat} (h : c < 4294967296) : crc1 c < 4294967296 := by
  unfold crc1
  split
  · exact Nat.xor_lt_two_pow (n := 32) (by omega) (by omega)
  · omega
theorem crcN_lt {c : Nat} (h : c < 4294967296) (k : Nat) : crcN k c < 4294967296 := by
  induction k with
  | zero => exact h
  | succ k ih => exact crc1_lt ih
theorem xorB_lt {c : Nat} (h : c < 4294967296) (b : UInt8) : c ^^^ b.toNat < 4294967296 :=
  Nat.xor_lt_two_pow (n := 32) (by omega) (by have := b.toNat_lt; omega)
theorem crcB_lt {c : Nat} (h : c < 4294967296) (b : UInt8) : crcB c b < 4294967296 := crcN_lt (xorB_lt h b) 8
theorem crcFold_lt (l : List UInt8) : ∀ c, c < 4294967296 → l.foldl crcB c < 4294967296 := by
  induction l with
  | nil => intro c h; exact h
  | cons b l ih => intro c h; exact ih _ (crcB_lt h b)
theorem crcRaw_lt (l : List UInt8) : crcRaw l < 4294967296 := crcFold_lt l _ (by omega)
theorem crc_lt (l : List UInt8) : crc l < 4294967296 := by unfold crc; omega
theorem crcRaw_take {l : List UInt8} {k : Nat} (h : k < l.length) : crcRaw (l.take (k + 1)) = crcB (crcRaw (l.take k)) (l.getD k 0) := by
  unfold crcRaw
  rw [List.take_succ_eq_append_getElem h, List.foldl_append]
  simp [List.getD_eq_getElem?_getD, h]
end Go.Proofs.YtfpepdjffehbcaaGreat
/-
  How many bytes a bundle has, and with one Book twice, plainly. No condition, no program in sight.
-/
set_option linter.unusedVariables false
set_option linter.unusedSimpArgs false
namespace Go.Proofs.YtfpepdjffehbcaaGreat
open Go.RowKit

theorem rise_nodup {α : Type} {lt : α → α → Bool} (T : TotalLt lt) {l : List α} (h : RiseL lt l) : l.Nodup := List.Pairwise.imp (fun {a b} hab e => by rw [e, T.irr] at hab; cases hab) h
/-- A sum over what lists hold, each once. -/
theorem sum_same {α : Type} {l m : List α} (hl : l.Nodup) (hm : m.Nodup) (h : ∀ x, x ∈ l ↔ x ∈ m) (f : α → Nat) : (l.map f).sum = (m.map f).sum := ((List.perm_ext_iff_of_nodup hl hm).2 h |>.map f).sum_nat
/-- How many bytes a bundle has. -/
def lenB (l : List PStep) : Nat := 22 + ((textsP l).map fun s => 4 + s.size).sum + 4 * (pathsP l).length + ((tabsB l).map fun t => 4 + 8 * t.length).sum + (l.map fun b => 8 + 8 * (groupsB b.2).length).sum
theorem sum_const {α : Type} (n : Nat) (l : List α) : (l.map fun _ => n).sum = n * l.length := by
  induction l with
  | nil => rfl
  | cons x l ih => simp only [List.map_cons, List.sum_cons, ih, List.length_cons]; rw [Nat.mul_add, Nat.mul_one]; omega
theorem textBy_len (s : ByteArray) : (textBy s).length = 4 + s.size := by
  unfold textBy
  rw [List.length_append, le_len, ← Lib.size_eq]
theorem tabBy_len (t : List RowI) : (tabBy t).length = 4 + 8 * t.length := by
  unfold tabBy
  rw [List.length_append, le_len, List.length_flatMap]
  have : (t.map fun r : RowI => (le 4 r.1.toNat ++ le 4 r.2.toNat).length) = t.map fun _ => 8 := List.map_congr_left fun r _ => by rw [List.length_append, le_len, le_len]
  rw [this, sum_const]
theorem bookBy_len (T P : List ByteArray) (tabs : List (List RowI)) (b : PStep) : (bookBy T P tabs b).length = 8 + 8 * (groupsB b.2).length := by
  unfold bookBy
  rw [List.length_append, List.length_append, le_len, le_len, List.length_flatMap]
  have : ((groupsB b.2).map fun g => (le 4 (idx T g) ++ le 4 (tix tabs (rowsB T P b.2 g))).length) = (groupsB b.2).map fun _ => 8 := List.map_congr_left fun r _ => by rw [List.length_append, le_len, le_len]
  rw [this, sum_const]
theorem body_len (l : List PStep) : (bodyB l).length = lenB l := by
  unfold bodyB lenB
  simp only [List.length_append, le_len, List.length_flatMap, textBy_len, tabBy_len, bookBy_len, sum_const, List.length_cons, List.length_nil]
  omega
/-- A number of a text, in the longer list. -/
def reI (T U : List ByteArray) (r : RowI) : RowI := (r.1, (idx U (T.getD r.2.toNat ByteArray.empty) : Int))
theorem getD_idx {T : List ByteArray} {s : ByteArray} (h : s ∈ T) : T.getD (idx T s) ByteArray.empty = s := by
  rw [List.getD_eq_getElem?_getD, idx_get h]
  rfl
theorem rowsB_re {T U P : List ByteArray} {vs : List PKey} (h : ∀ v ∈ vs, v.2 ∈ T) (g : ByteArray) : rowsB U P vs g = (rowsB T P vs g).map (reI T U) := by
  unfold rowsB
  rw [List.map_map]
  refine List.map_congr_left fun v hv => ?_
  have := h v (List.mem_filter.1 hv).1
  simp only [Function.comp, reI]
  rw [show ((idx T v.2 : Nat) : Int).toNat = idx T v.2 from Int.toNat_natCast _, getD_idx this]
theorem map_inj_on {α β : Type} {f : α → β} {S : α → Prop} (hf : ∀ x y, S x → S y → f x = f y → x = y) : ∀ {l m : List α}, (∀ x ∈ l, S x) → (∀ x ∈ m, S x) → l.map f = m.map f → l = m
  | [], [], _, _, _ => rfl
  | x :: l, y :: m, hl, hm, e => by
    simp only [List.map_cons, List.cons.injEq] at e
    rw [hf x y (hl x (by simp)) (hm y (by simp)) e.1, map_inj_on hf (fun z hz => hl z (by simp [hz])) (fun z hz => hm z (by simp [hz])) e.2]
  | [], _ :: _, _, _, e => by simp at e
  | _ :: _, [], _, _, e => by simp at e
/-- A bundle with one Book twice, by another name. -/
theorem twice_len {l : List PStep} {n m : ByteArray} {vs : List PKey} (hb : (n, vs) ∈ l) : lenB (l ++ [(m, vs)]) = lenB l + (if hasT (textsP l) m = true then 0 else 4 + m.size) + 8 + 8 * (groupsB vs).length := by
  have hw : ∀ s, s ∈ wordsB (l ++ [(m, vs)]) ↔ s = m ∨ s ∈ wordsB l := by
    intro s
    unfold wordsB
    rw [List.flatMap_append, List.mem_append]
    simp only [List.flatMap_cons, List.flatMap_nil, List.append_nil, List.mem_cons]
    constructor
    · rintro (h | rfl | h)
      · exact .inr h
      · exact .inl rfl
      · exact .inr (List.mem_flatMap.2 ⟨(n, vs), hb, List.mem_cons_of_mem _ h⟩)
    · rintro (rfl | h)
      · exact .inr (.inl rfl)
      · exact .inl h
  have hP : pathsP (l ++ [(m, vs)]) = pathsP l := by
    unfold pathsP
    refine poolL_congr blT fun s => ?_
    unfold pathsB
    rw [List.flatMap_append, List.mem_append]
    simp only [List.flatMap_cons, List.flatMap_nil, List.append_nil]
    exact ⟨fun h => h.elim id fun h => List.mem_flatMap.2 ⟨(n, vs), hb, h⟩, .inl⟩
  have hT2 : ∀ b ∈ l, ∀ v ∈ b.2, v.2 ∈ textsP l := fun b hb v hv => (poolL_mem _ _).2 (words_val hb hv).2.2
  have hmem : ∀ s, s ∈ textsP (l ++ [(m, vs)]) ↔ s = m ∨ s ∈ textsP l := fun s => by
    unfold textsP
    rw [poolL_mem, poolL_mem, hw]
  have hsub : ∀ s ∈ textsP l, s ∈ textsP (l ++ [(m, vs)]) := fun s hs => (hmem s).2 (.inr hs)
  have hTs : ((textsP (l ++ [(m, vs)])).map fun s => 4 + s.size).sum = ((textsP l).map fun s => 4 + s.size).sum + (if hasT (textsP l) m = true then 0 else 4 + m.size) := by
    by_cases hm : m ∈ textsP l
    · rw [if_pos (hasT_iff.2 hm)]
      exact sum_same (rise_nodup blT (poolL_rise blT _)) (rise_nodup blT (poolL_rise blT _)) (fun s => (hmem s).trans ⟨fun h => h.elim (fun e => e ▸ hm) id, .inr⟩) _
    · rw [if_neg (fun h => hm (hasT_iff.1 h)), sum_same (l := textsP (l ++ [(m, vs)])) (m := m :: textsP l) (rise_nodup blT (poolL_rise blT _)) (List.nodup_cons.2 ⟨hm, rise_nodup blT (poolL_rise blT _)⟩) (fun s => (hmem s).trans (by rw [List.mem_cons]))]
      simp only [List.map_cons, List.sum_cons]
      omega
  have hall : ∀ t, t ∈ allTabs (textsP (l ++ [(m, vs)])) (pathsP (l ++ [(m, vs)])) (l ++ [(m, vs)]) ↔ ∃ u ∈ allTabs (textsP l) (pathsP l) l, t = u.map (reI (textsP l) (textsP (l ++ [(m, vs)]))) := by
    intro t
    rw [hP]
    unfold allTabs
    constructor
    · intro h
      obtain ⟨b, hbm, h⟩ := List.mem_flatMap.1 h
      obtain ⟨g, hg, rfl⟩ := List.mem_map.1 h
      have hb2 : ∃ c ∈ l, c.2 = b.2 := by
        rcases List.mem_append.1 hbm with h | h
        · exact ⟨b, h, rfl⟩
        · rw [List.mem_singleton] at h
          exact ⟨(n, vs), hb, by rw [h]⟩
      obtain ⟨c, hc, hcb⟩ := hb2
      refine ⟨rowsB (textsP l) (pathsP l) b.2 g, List.mem_flatMap.2 ⟨c, hc, List.mem_map.2 ⟨g, by rw [hcb]; exact hg, by rw [hcb]⟩⟩, ?_⟩
      exact rowsB_re (fun v hv => hT2 c hc v (by rw [hcb]; exact hv)) g
    · rintro ⟨u, hu, rfl⟩
      obtain ⟨b, hbm, h⟩ := List.mem_flatMap.1 hu
      obtain ⟨g, hg, rfl⟩ := List.mem_map.1 h
      exact List.mem_flatMap.2 ⟨b, List.mem_append_left _ hbm, List.mem_map.2 ⟨g, hg, rowsB_re (fun v hv => hT2 b hbm v hv) g⟩⟩
  have hrow : ∀ u ∈ allTabs (textsP l) (pathsP l) l, ∀ r ∈ u, ∃ s ∈ textsP l, r.2 = (idx (textsP l) s : Int) := by
    intro u hu r hr
    obtain ⟨b, hbm, h⟩ := List.mem_flatMap.1 hu
    obtain ⟨g, hg, rfl⟩ := List.mem_map.1 h
    obtain ⟨v, hv, -, rfl⟩ := rowsB_mem.1 hr
    exact ⟨v.2, hT2 b hbm v hv, rfl⟩
  have hinj : ∀ r r' : RowI, (∃ s ∈ textsP l, r.2 = (idx (textsP l) s : Int)) → (∃ s ∈ textsP l, r'.2 = (idx (textsP l) s : Int)) → reI (textsP l) (textsP (l ++ [(m, vs)])) r = reI (textsP l) (textsP (l ++ [(m, vs)])) r' → r = r' := by
    rintro ⟨a, b⟩ ⟨c, d⟩ ⟨s, hs, h1⟩ ⟨s', hs', h2⟩ e
    simp only at h1 h2
    subst h1 h2
    unfold reI at e
    simp only [Prod.mk.injEq, Int.toNat_natCast] at e
    rw [getD_idx hs, getD_idx hs'] at e
    have e2 : s = s' := idx_inj (hsub s hs) (hsub s' hs') (by have := e.2; omega)
    rw [e.1, e2]
  have hTab : ((tabsB (l ++ [(m, vs)])).map fun t => 4 + 8 * t.length).sum = ((tabsB l).map fun t => 4 + 8 * t.length).sum := by
    have hn1 : (tabsB l).Nodup := rise_nodup tlT (poolL_rise tlT _)
    have hn2 : ((tabsB l).map fun u => u.map (reI (textsP l) (textsP (l ++ [(m, vs)])))).Nodup := by
      refine List.pairwise_map.2 (List.Pairwise.imp_of_mem (fun {a b} ha hb hne e => hne ?_) hn1)
      exact map_inj_on hinj (hrow a ((poolL_mem _ _).1 ha)) (hrow b ((poolL_mem _ _).1 hb)) e
    rw [sum_same (l := tabsB (l ++ [(m, vs)])) (rise_nodup tlT (poolL_rise tlT _)) hn2 (fun t => ?_), List.map_map]
    · congr 1
      refine List.map_congr_left fun u _ => ?_
      simp only [Function.comp, List.length_map]
    · unfold tabsB
      rw [poolL_mem, hall, List.mem_map]
      exact ⟨fun ⟨u, hu, e⟩ => ⟨u, (poolL_mem _ _).2 hu, e.symm⟩, fun ⟨u, hu, e⟩ => ⟨u, (poolL_mem _ _).1 hu, e.symm⟩⟩
  unfold lenB
  rw [hTs, hTab, hP, List.map_append, List.sum_append]
  simp only [List.map_cons, List.map_nil, List.sum_cons, List.sum_nil]
  omega
end Go.Proofs.YtfpepdjffehbcaaGreat
/-
  A bundle in order, plainly. No condition, no program in sight.
-/
set_option linter.unusedVariables false
set_option linter.unusedSimpArgs false
namespace Go.Proofs.YtfpepdjffehbcaaGreat
open Go.RowKit

/-- The order of values: by path, by text. -/
def vlt (a b : PKey) : Bool := bl a.1 b.1 || (decide (a.1 = b.1) && bl a.2 b.2)
theorem vltT : TotalLt vlt where
  irr a := by simp [vlt, blT.irr]
  tr a b c h1 h2 := by
    simp only [vlt, Bool.or_eq_true, Bool.and_eq_true, decide_eq_true_eq] at *
    rcases h1 with h1 | ⟨e1, h1⟩
    · rcases h2 with h2 | ⟨e2, h2⟩
      · exact .inl (blT.tr _ _ _ h1 h2)
      · exact .inl (by rw [← e2]; exact h1)
    · rcases h2 with h2 | ⟨e2, h2⟩
      · exact .inl (by rw [e1]; exact h2)
      · exact .inr ⟨e1.trans e2, blT.tr _ _ _ h1 h2⟩
  conn a b h1 h2 := by
    simp only [vlt, Bool.or_eq_false_iff, Bool.and_eq_false_iff, decide_eq_false_iff_not] at h1 h2
    have e1 := blT.conn _ _ h1.1 h2.1
    have h3 : bl a.2 b.2 = false := h1.2.elim (fun h => absurd e1 h) id
    have h4 : bl b.2 a.2 = false := h2.2.elim (fun h => absurd e1.symm h) id
    exact Prod.ext e1 (blT.conn _ _ h3 h4)
/-- The values that are said of a name. -/
def valsOf (l : List PStep) (n : ByteArray) : List PKey := (l.filter fun b => decide (b.1 = n)).flatMap Prod.snd
theorem valsOf_mem {l : List PStep} {n : ByteArray} {v : PKey} : v ∈ valsOf l n ↔ ∃ b ∈ l, b.1 = n ∧ v ∈ b.2 := by
  unfold valsOf
  simp only [List.mem_flatMap, List.mem_filter, decide_eq_true_eq]
  exact ⟨fun ⟨b, ⟨h1, h2⟩, h3⟩ => ⟨b, h1, h2, h3⟩, fun ⟨b, h1, h2, h3⟩ => ⟨b, ⟨h1, h2⟩, h3⟩⟩
/-- Nothing is said twice and unlike. -/
def ConsB (l : List PStep) : Prop := ∀ (n : ByteArray) (u v : PKey), u ∈ valsOf l n → v ∈ valsOf l n → u.1 = v.1 → u.2 = v.2
/-- The bundle in order. -/
def sortOut (l : List PStep) : List PStep := (poolL bl (l.map Prod.fst)).map fun n => (n, poolL vlt (valsOf l n))
/-- What Sort answers. -/
def SortIs (l r : List PStep) (e a : Int) : Prop :=
  (∃ i : Nat, ¬ ConsB (l.take (i + 1)) ∧ ConsB (l.take i) ∧ e = 5 ∧ a = (i : Int) ∧ r = []) ∨
  (ConsB l ∧ (((checkB (sortOut l)).1 ≠ 0 ∧ r = [] ∧ e = (checkB (sortOut l)).1 ∧ a = (checkB (sortOut l)).2) ∨ ((checkB (sortOut l)).1 = 0 ∧ r = sortOut l ∧ e = 0 ∧ a = 0)))
theorem cons_sub {l m : List PStep} (h : ∀ b ∈ l, b ∈ m) (hc : ConsB m) : ConsB l := fun n u v hu hv e => by
  obtain ⟨b, hb, h1, h2⟩ := valsOf_mem.1 hu
  obtain ⟨c, hcm, h3, h4⟩ := valsOf_mem.1 hv
  exact hc n u v (valsOf_mem.2 ⟨b, h b hb, h1, h2⟩) (valsOf_mem.2 ⟨c, h c hcm, h3, h4⟩) e
theorem cons_take {l : List PStep} {i j : Nat} (h : i ≤ j) (hc : ConsB (l.take j)) : ConsB (l.take i) := cons_sub (fun b hb => by
  obtain ⟨k, hk⟩ := List.mem_iff_getElem?.1 hb
  rw [List.getElem?_take] at hk
  split at hk
  · exact List.mem_iff_getElem?.2 ⟨k, by rw [List.getElem?_take, if_pos (by omega)]; exact hk⟩
  · cases hk) hc
theorem cons_take_of {l : List PStep} (hc : ConsB l) (i : Nat) : ConsB (l.take i) := cons_sub (fun b hb => List.mem_of_mem_take hb) hc
theorem sort_one {l r r' : List PStep} {e a e' a' : Int} (h : SortIs l r e a) (h2 : SortIs l r' e' a') : r = r' ∧ e = e' ∧ a = a' := by
  rcases h with ⟨i, h1, h3, rfl, rfl, rfl⟩ | ⟨hc, h⟩
  · rcases h2 with ⟨k, k1, k3, rfl, rfl, rfl⟩ | ⟨hc, -⟩
    · rcases Nat.lt_trichotomy i k with hlt | rfl | hgt
      · exact absurd (cons_take (by omega) k3) h1
      · exact ⟨rfl, rfl, rfl⟩
      · exact absurd (cons_take (by omega) h3) k1
    · exact absurd (cons_take_of hc _) h1
  · rcases h2 with ⟨k, k1, -, -, -, -⟩ | ⟨-, h2⟩
    · exact absurd (cons_take_of hc _) k1
    · rcases h with ⟨h, rfl, rfl, rfl⟩ | ⟨h, rfl, rfl, rfl⟩ <;> rcases h2 with ⟨h2, rfl, rfl, rfl⟩ | ⟨h2, rfl, rfl, rfl⟩
      · exact ⟨rfl, rfl, rfl⟩
      · exact absurd h2 h
      · exact absurd h h2
      · exact ⟨rfl, rfl, rfl⟩
/-- Two bundles that say the same of the same names. -/
def SaySame (l m : List PStep) : Prop := (∀ n, n ∈ l.map Prod.fst ↔ n ∈ m.map Prod.fst) ∧ ∀ n v, v ∈ valsOf l n ↔ v ∈ valsOf m n
theorem sortOut_congr {l m : List PStep} (h : SaySame l m) : sortOut l = sortOut m := by
  unfold sortOut
  rw [poolL_congr blT h.1]
  refine List.map_congr_left fun n _ => ?_
  rw [poolL_congr vltT (h.2 n)]
theorem cons_congr {l m : List PStep} (h : SaySame l m) (hc : ConsB l) : ConsB m := fun n u v hu hv e => hc n u v ((h.2 n u).2 hu) ((h.2 n v).2 hv) e
theorem sortOut_names (l : List PStep) : (sortOut l).map Prod.fst = poolL bl (l.map Prod.fst) := by
  unfold sortOut
  rw [List.map_map]
  exact List.map_id _
theorem sortOut_says (l : List PStep) : SaySame (sortOut l) l := by
  refine ⟨fun n => by rw [sortOut_names, poolL_mem], fun n v => ?_⟩
  rw [valsOf_mem]
  constructor
  · rintro ⟨b, hb, rfl, hv⟩
    obtain ⟨n, hn, rfl⟩ := List.mem_map.1 hb
    exact (poolL_mem _ _).1 hv
  · intro hv
    obtain ⟨b, hb, rfl, hv2⟩ := valsOf_mem.1 hv
    exact ⟨(b.1, poolL vlt (valsOf l b.1)), List.mem_map.2 ⟨b.1, (poolL_mem _ _).2 (List.mem_map.2 ⟨b, hb, rfl⟩), rfl⟩, rfl, (poolL_mem _ _).2 hv⟩
theorem filter_one : ∀ {l : List PStep}, RiseL (fun x y => bl x.1 y.1) l → ∀ b ∈ l, (l.filter fun c => decide (c.1 = b.1)) = [b]
  | [], _, b, hb => by cases hb
  | c :: l, h, b, hb => by
    obtain ⟨h1, h2⟩ := List.pairwise_cons.1 h
    rcases List.mem_cons.1 hb with rfl | hb
    · rw [List.filter_cons_of_pos (by simp), List.filter_eq_nil_iff.2]
      intro d hd e
      have := h1 d hd
      simp only at this
      rw [of_decide_eq_true e, blT.irr] at this
      cases this
    · rw [List.filter_cons_of_neg]
      · exact filter_one h2 b hb
      · intro e
        have := h1 b hb
        simp only at this
        rw [of_decide_eq_true e, blT.irr] at this
        cases this
theorem valsOf_one {l : List PStep} (h : RiseL (fun x y => bl x.1 y.1) l) {b : PStep} (hb : b ∈ l) : valsOf l b.1 = b.2 := by
  unfold valsOf
  rw [filter_one h b hb]
  simp
theorem rise_vlt {vs : List PKey} (h : RiseL (fun x y => bl x.1 y.1) vs) : RiseL vlt vs := List.Pairwise.imp (fun {a b} h => by unfold vlt; simp only at h; rw [h]; rfl) h
theorem sortOut_self {l : List PStep} (h : RiseL (fun x y => bl x.1 y.1) l) (hv : ∀ b ∈ l, RiseL (fun x y => bl x.1 y.1) b.2) : sortOut l = l := by
  unfold sortOut
  have hn : RiseL bl (l.map Prod.fst) := List.pairwise_map.2 h
  rw [poolL_self blT hn, List.map_map]
  conv => rhs; rw [← List.map_id l]
  refine List.map_congr_left fun b hb => ?_
  show (b.1, poolL vlt (valsOf l b.1)) = b
  rw [valsOf_one h hb, poolL_self vltT (rise_vlt (hv b hb))]
theorem rise_cons {l : List PStep} (h : RiseL (fun x y => bl x.1 y.1) l) (hv : ∀ b ∈ l, RiseL (fun x y => bl x.1 y.1) b.2) : ConsB l := by
  intro n u v hu hw e
  obtain ⟨b, hb, rfl, hu2⟩ := valsOf_mem.1 hu
  rw [valsOf_one h hb] at hw
  obtain ⟨i, hi⟩ := List.mem_iff_getElem?.1 hu2
  obtain ⟨j, hj⟩ := List.mem_iff_getElem?.1 hw
  obtain ⟨hi1, hi2⟩ := List.getElem?_eq_some_iff.1 hi
  obtain ⟨hj1, hj2⟩ := List.getElem?_eq_some_iff.1 hj
  have hp := List.pairwise_iff_getElem.1 (hv b hb)
  rcases Nat.lt_trichotomy i j with hlt | rfl | hgt
  · have := hp i j hi1 hj1 hlt
    simp only [hi2, hj2] at this
    rw [e, blT.irr] at this
    cases this
  · rw [hi] at hj
    cases hj
    rfl
  · have := hp j i hj1 hi1 hgt
    simp only [hi2, hj2] at this
    rw [e, blT.irr] at this
    cases this
/-- What is in order stays. -/
theorem sort_again {l : List PStep} (h : (checkB l).1 = 0) {r : List PStep} {e a : Int} (hs : SortIs l r e a) : r = l ∧ e = 0 ∧ a = 0 := by
  obtain ⟨-, h2, h3⟩ := checkB_ok h
  have hv : ∀ b ∈ l, RiseL (fun x y => bl x.1 y.1) b.2 := fun b hb => (h3 b hb).2.1
  have hself := sortOut_self h2 hv
  refine sort_one hs (.inr ⟨rise_cons h2 hv, .inr ⟨by rw [hself]; exact h, hself.symm, rfl, rfl⟩⟩)
/-- What says the same is sorted the same, where one of them may be. -/
theorem sort_same {l m r r' : List PStep} {a e' a' : Int} (h : SaySame l m) (hs : SortIs l r 0 a) (hm : SortIs m r' e' a') : r' = r ∧ e' = 0 ∧ a' = 0 := by
  rcases hs with ⟨i, -, -, he, -⟩ | ⟨hc, ⟨hn, -, he, -⟩ | ⟨hz, rfl, -, -⟩⟩
  · exact absurd he (by decide)
  · exact absurd he.symm hn
  · exact sort_one hm (.inr ⟨cons_congr h hc, .inr ⟨by rw [← sortOut_congr h]; exact hz, sortOut_congr h, rfl, rfl⟩⟩)
end Go.Proofs.YtfpepdjffehbcaaGreat
/-
  A bundle's bytes piece by piece, and how many they are, plainly. No condition, no program in sight.
-/
set_option linter.unusedVariables false
set_option linter.unusedSimpArgs false
namespace Go.Proofs.YtfpepdjffehbcaaGreat
open Go.RowKit

theorem right_512 {a : ByteArray} (h : rightB a = true) : a.size ≤ 512 := by
  obtain ⟨l, hl⟩ := rightB_ok.1 h
  unfold parseM at hl
  split at hl
  · cases hl
  · omega
theorem stepM_sz {s : ByteArray} {p q : Nat} {st : PStep} (h : stepM s p = .ok (st, q)) : st.1.size ≤ s.size := by
  unfold stepM nameM at h
  cases hn : nameErr s p with
  | some e => rw [hn] at h; cases h
  | none =>
    rw [hn] at h
    simp only at h
    cases hk : keysM s (nameEnd s p) [] with
    | error e => rw [hk] at h; cases h
    | ok r =>
      rw [hk] at h
      cases h
      simp only [ByteArray.size_extract]
      omega
theorem stepsF_sz (s : ByteArray) : ∀ (k p : Nat) (l m : List PStep), stepsF k s p l = .ok m → (∀ st ∈ l, st.1.size ≤ s.size) → ∀ st ∈ m, st.1.size ≤ s.size
  | 0, p, l, m, h, _ => by unfold stepsF at h; cases h
  | k + 1, p, l, m, h, hl => by
    unfold stepsF at h
    split at h
    · cases h
    · cases hs : stepM s p with
      | error e => rw [hs] at h; cases h
      | ok r =>
        obtain ⟨st, q⟩ := r
        rw [hs] at h
        simp only at h
        have hl2 : ∀ x ∈ l ++ [st], x.1.size ≤ s.size := fun x hx => by
          rcases List.mem_append.1 hx with hx | hx
          · exact hl x hx
          · rw [List.mem_singleton.1 hx]
            exact stepM_sz hs
        split at h
        · cases h
          exact hl2
        · split at h
          · exact stepsF_sz s k (q + 1) (l ++ [st]) m h hl2
          · cases h
theorem grp_sz (p : ByteArray) : (grp p).size ≤ p.size := by
  unfold grp
  split
  · rename_i st r h
    unfold parseM at h
    split at h
    · cases h
    · split at h
      · cases h
      · split at h
        · cases h
        · exact stepsF_sz p _ _ _ _ h (by simp) st (by simp)
  · exact Nat.zero_le _
/-- The texts of a bundle that may be are short. -/
theorem texts_small {l : List PStep} (h : (checkB l).1 = 0) : ∀ s ∈ textsP l, s.size ≤ 4096 := by
  intro s hs
  obtain ⟨-, -, h3⟩ := checkB_ok h
  have hw := (poolL_mem (lt := bl) _ _).1 hs
  unfold wordsB at hw
  obtain ⟨b, hb, hw⟩ := List.mem_flatMap.1 hw
  obtain ⟨h4, -, h5⟩ := h3 b hb
  rcases List.mem_cons.1 hw with rfl | hw
  · omega
  · obtain ⟨v, hv, hw⟩ := List.mem_flatMap.1 hw
    obtain ⟨-, v2, -, v4⟩ := h5 v hv
    have v5 := right_512 v2
    have v6 := grp_sz v.1
    simp only [List.mem_cons, List.not_mem_nil, or_false] at hw
    rcases hw with rfl | rfl | rfl <;> omega
theorem flat_le {α : Type} {f : α → List UInt8} {c : Nat} : ∀ {l : List α}, (∀ x ∈ l, (f x).length ≤ c) → (l.flatMap f).length ≤ c * l.length
  | [], _ => Nat.le_refl _
  | x :: r, h => by
    have ih := flat_le (f := f) (c := c) (l := r) fun y hy => h y (by simp [hy])
    have hx := h x (by simp)
    rw [List.flatMap_cons, List.length_append, List.length_cons, Nat.mul_add]
    omega
theorem flat_next {α : Type} {f : α → List UInt8} {l : List α} {i : Nat} {x : α} (h : l[i]? = some x) : (l.take (i + 1)).flatMap f = (l.take i).flatMap f ++ f x := by
  rw [List.take_add_one, h, List.flatMap_append]
  simp
def rowBy (r : RowI) : List UInt8 := le 4 r.1.toNat ++ le 4 r.2.toNat
def grpBy (T P : List ByteArray) (tabs : List (List RowI)) (b : PStep) (g : ByteArray) : List UInt8 := le 4 (idx T g) ++ le 4 (tix tabs (rowsB T P b.2 g))
def pre0 : List UInt8 := [86, 82, 78, 67] ++ le 2 1
def preT (l : List PStep) : List UInt8 := pre0 ++ le 4 (textsP l).length
def preP (l : List PStep) : List UInt8 := preT l ++ (textsP l).flatMap textBy ++ le 4 (pathsP l).length
def preX (l : List PStep) : List UInt8 := preP l ++ ((pathsP l).flatMap fun s => le 4 (idx (textsP l) s)) ++ le 4 (tabsB l).length
def preK (l : List PStep) : List UInt8 := preX l ++ (tabsB l).flatMap tabBy ++ le 4 l.length
theorem body_pre (l : List PStep) : bodyB l = preK l ++ l.flatMap (bookBy (textsP l) (pathsP l) (tabsB l)) := by
  unfold bodyB preK preX preP preT pre0
  simp only [List.append_assoc]
/-- A bundle's bytes. -/
def bytesB (l : List PStep) : List UInt8 := bodyB l ++ le 4 (crc (bodyB l))
/-- Few Books, few values. -/
def BunFew (l : List PStep) : Prop := l.length ≤ 100 ∧ ∀ b ∈ l, b.2.length ≤ 5000
theorem few_words : ∀ (l : List PStep), (∀ b ∈ l, b.2.length ≤ 5000) → (wordsB l).length ≤ 15001 * l.length ∧ (pathsB l).length ≤ 5000 * l.length
  | [], _ => ⟨Nat.le_refl _, Nat.le_refl _⟩
  | b :: r, h => by
    have ih := few_words r fun c hc => h c (by simp [hc])
    have hb := h b (by simp)
    have hw : ∀ vs : List PKey, (vs.flatMap fun v => [grp v.1, v.1, v.2]).length = 3 * vs.length := by
      intro vs
      induction vs with
      | nil => rfl
      | cons x r ih => rw [List.flatMap_cons, List.length_append, ih]; simp; omega
    unfold wordsB pathsB at ih ⊢
    simp only [List.flatMap_cons, List.length_append, List.length_cons, List.length_map, hw]
    omega
theorem few_groups (vs : List PKey) : (groupsB vs).length ≤ vs.length := by
  unfold groupsB
  have := poolL_len (lt := bl) (vs.map fun v => grp v.1)
  rw [List.length_map] at this
  exact this
theorem few_tabs (T P : List ByteArray) : ∀ (l : List PStep), (∀ b ∈ l, b.2.length ≤ 5000) → (allTabs T P l).length ≤ 5000 * l.length ∧ ∀ t ∈ allTabs T P l, t.length ≤ 5000
  | [], _ => ⟨Nat.le_refl _, by simp [allTabs]⟩
  | b :: r, h => by
    have ih := few_tabs T P r fun c hc => h c (by simp [hc])
    have hb := h b (by simp)
    have hg := few_groups b.2
    unfold allTabs at ih ⊢
    refine ⟨by simp only [List.flatMap_cons, List.length_append, List.length_map, List.length_cons]; omega, fun t ht => ?_⟩
    rw [List.flatMap_cons, List.mem_append] at ht
    rcases ht with ht | ht
    · obtain ⟨g, -, rfl⟩ := List.mem_map.1 ht
      unfold rowsB
      rw [List.length_map]
      exact Nat.le_trans (List.length_filter_le _ _) hb
    · exact ih.2 t ht
structure FewB (l : List PStep) : Prop where
  few : BunFew l
  nT : (textsP l).length ≤ 1500100
  nP : (pathsP l).length ≤ 500000
  nX : (tabsB l).length ≤ 500000
  sT : ∀ s ∈ textsP l, s.size ≤ 4096
  sX : ∀ t ∈ tabsB l, t.length ≤ 5000
  sK : ∀ b ∈ l, (groupsB b.2).length ≤ 5000
  rX : ∀ t ∈ tabsB l, ∀ q ∈ t, (0 ≤ q.1 ∧ q.1 < 4294967296) ∧ 0 ≤ q.2 ∧ q.2 < 4294967296
theorem few_all {l : List PStep} (h : (checkB l).1 = 0) (hf : BunFew l) : FewB l := by
  have h1 := few_words l hf.2
  have h2 := few_tabs (textsP l) (pathsP l) l hf.2
  have h3 := hf.1
  have nT : (textsP l).length ≤ 1500100 := by
    have := poolL_len (lt := bl) (wordsB l)
    unfold textsP
    omega
  have nP : (pathsP l).length ≤ 500000 := by
    have := poolL_len (lt := bl) (pathsB l)
    unfold pathsP
    omega
  refine ⟨hf, nT, nP, ?_, texts_small h, fun t ht => h2.2 t ((poolL_mem _ _).1 ht), fun b hb => Nat.le_trans (few_groups b.2) (hf.2 b hb), fun t ht q hq => ?_⟩
  · have := poolL_len (lt := tl) (allTabs (textsP l) (pathsP l) l)
    unfold tabsB
    omega
  · have ht2 := (poolL_mem (lt := tl) _ _).1 ht
    unfold allTabs at ht2
    obtain ⟨b, hb, ht2⟩ := List.mem_flatMap.1 ht2
    obtain ⟨gr, -, rfl⟩ := List.mem_map.1 ht2
    unfold rowsB at hq
    obtain ⟨v, hv, rfl⟩ := List.mem_map.1 hq
    have hv2 := (List.mem_filter.1 hv).1
    have i1 := idx_lt (show v.1 ∈ pathsP l from (poolL_mem _ _).2 (paths_val hb hv2))
    have i2 := idx_lt (show v.2 ∈ textsP l from (poolL_mem _ _).2 (words_val hb hv2).2.2)
    simp only
    omega
theorem FewB.small {l : List PStep} (h : FewB l) : BunSm l := by
  have h1 := h.few.1
  have h2 := h.nT
  have h3 := h.nP
  have h4 := h.nX
  refine ⟨by omega, by omega, by omega, by omega, fun s hs => by have := h.sT s hs; omega, fun t ht => ⟨by have := h.sX t ht; omega, h.rX t ht⟩, fun b hb => by have := h.sK b hb; omega⟩
theorem pre0_len : pre0.length = 6 := by simp [pre0, le_len]
theorem tl_take {α : Type} {f : α → List UInt8} {c n : Nat} {l : List α} (h : ∀ x ∈ l, (f x).length ≤ c) (hn : l.length ≤ n) (p : Nat) : ((l.take p).flatMap f).length ≤ c * n := by
  have h1 := flat_le (f := f) (c := c) (l := l.take p) fun x hx => h x (List.mem_of_mem_take hx)
  have h2 : (l.take p).length ≤ l.length := by rw [List.length_take]; omega
  exact Nat.le_trans h1 (Nat.mul_le_mul_left c (by omega))
theorem FewB.lenT {l : List PStep} (h : FewB l) (p : Nat) : (preT l ++ ((textsP l).take p).flatMap textBy).length ≤ 6200000000 := by
  have h1 := tl_take (f := textBy) (c := 4100) (fun s hs => by unfold textBy; rw [List.length_append, le_len]; have := h.sT s hs; have : s.data.toList.length = s.size := rfl; omega) h.nT p
  unfold preT
  simp only [List.length_append, pre0_len, le_len]
  omega
theorem FewB.lenP {l : List PStep} (h : FewB l) (p : Nat) : (preP l ++ ((pathsP l).take p).flatMap fun s => le 4 (idx (textsP l) s)).length ≤ 6210000000 := by
  have h0 := h.lenT (textsP l).length
  rw [List.take_length] at h0
  have h1 := tl_take (f := fun s => le 4 (idx (textsP l) s)) (c := 4) (fun s hs => by simp [le_len]) h.nP p
  unfold preP
  rw [List.length_append, List.length_append, le_len]
  omega
theorem FewB.lenX {l : List PStep} (h : FewB l) (p : Nat) : (preX l ++ ((tabsB l).take p).flatMap tabBy).length ≤ 28000000000 := by
  have h0 := h.lenP (pathsP l).length
  rw [List.take_length] at h0
  have h1 := tl_take (f := tabBy) (c := 40004) (fun t ht => by
    have h2 := h.sX t ht
    have h3 := flat_le (f := rowBy) (c := 8) (l := t) (fun r _ => by simp [rowBy, le_len])
    unfold tabBy
    rw [List.length_append, le_len]
    unfold rowBy at h3
    omega) h.nX p
  unfold preX
  rw [List.length_append, List.length_append, le_len]
  omega
theorem FewB.lenK {l : List PStep} (h : FewB l) (p : Nat) : (preK l ++ (l.take p).flatMap (bookBy (textsP l) (pathsP l) (tabsB l))).length ≤ 29000000000 := by
  have h0 := h.lenX (tabsB l).length
  rw [List.take_length] at h0
  have h1 := tl_take (f := bookBy (textsP l) (pathsP l) (tabsB l)) (c := 40008) (fun b hb => by
    have h2 := h.sK b hb
    have h3 := flat_le (f := grpBy (textsP l) (pathsP l) (tabsB l) b) (c := 8) (l := groupsB b.2) (fun r _ => by simp [grpBy, le_len])
    unfold bookBy
    rw [List.length_append, List.length_append, le_len, le_len]
    unfold grpBy at h3
    omega) h.few.1 p
  unfold preK
  rw [List.length_append, List.length_append, le_len]
  omega
theorem FewB.len {l : List PStep} (h : FewB l) : (bodyB l).length ≤ 29000000000 := by
  have := h.lenK l.length
  rw [List.take_length, ← body_pre] at this
  exact this
end Go.Proofs.YtfpepdjffehbcaaGreat
