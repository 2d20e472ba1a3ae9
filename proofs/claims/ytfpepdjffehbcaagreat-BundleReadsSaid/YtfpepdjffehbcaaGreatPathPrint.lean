/-
  The walk of path.may. Condition: the strings and the keys are within the reach.
-/
import Derived.Test.YtfpepdjffehbcaaGreatPathParse
import Derived.Shelf.Strings.BuilderK
import Derived.Shelf.Strings.OnBuilder
import Derived.WalkMore
import Derived.Lib.MapLaws
import Derived.Laws.StructEq
set_option linter.unusedVariables false
set_option linter.unusedSimpArgs false
namespace Go.Proofs.YtfpepdjffehbcaaGreat
open Go.RowKit

def keyOk (ahead : ByteArray) (k : PKey) : Bool := nameOk k.1 && (Op.bytesLess ahead.toList k.1.toList) && (broken k.2).isNone && !ctrlAt k.2 0
def keysOk : ByteArray → List PKey → Bool
  | _, [] => true
  | ahead, k :: ks => keyOk ahead k && keysOk k.1 ks
def longK (ks : List PKey) : Bool := ks.any fun k => decide (k.1.size > 64) || decide (k.2.size > 64)
def mayM (st : PStep) : Bool × Bool := if keysOk ByteArray.empty st.2 = true then (nameOk st.1, !(decide (st.1.size > 64) || longK st.2)) else (false, false)
def MayPost (st : PStep) (w : World) (en : Ending) (w' : World) : Prop := en = .returned (.tuple #[.bool (mayM st).1, .bool (mayM st).2]) ∧ Below w.heap.size w w'
/-- A row of keys, read. -/
def KeysAt (w : World) (B : Nat) (v : Value) (ks : List PKey) : Prop := ∃ A c, v = .slice A ks.length c ∧ ks.length ≤ c ∧ c ≤ maxLen ∧ Reads w B 2 A ks.length (pairCells ks)
def KeysSmall (ks : List PKey) : Prop := ks.length ≤ 1000000 ∧ ∀ k ∈ ks, k.1.size ≤ 140737488355328 ∧ k.2.size ≤ 140737488355328

theorem bl_total : ∀ x y : List UInt8, (Op.bytesLess x y || x == y) = !Op.bytesLess y x
  | [], [] => by simp [Op.bytesLess]
  | _ :: _, [] => by simp [Op.bytesLess]
  | [], _ :: _ => by simp [Op.bytesLess]
  | a :: x, b :: y => by
    have ih := bl_total x y
    simp only [Op.bytesLess]
    by_cases hab : a = b
    · subst hab
      have h1 : ¬ a < a := by simp
      simp [h1] at ih ⊢
      exact ih
    · have hba : ¬ b = a := fun e => hab e.symm
      have h : (a < b) ∨ (b < a) := by
        rcases Nat.lt_trichotomy a.toNat b.toNat with h | h | h
        · exact .inl h
        · exact absurd (UInt8.toNat_inj.1 h) hab
        · exact .inr h
      rcases h with h | h
      · have h2 : ¬ b < a := fun e => by have h1 : a.toNat < b.toNat := h; have h3 : b.toNat < a.toNat := e; omega
        simp [h, h2, hba]
      · have h2 : ¬ a < b := fun e => by have h1 : b.toNat < a.toNat := h; have h3 : a.toNat < b.toNat := e; omega
        simp [h, h2, hab]
theorem keysOk_cons (ah : ByteArray) (ks : List PKey) (p : Nat) (k : PKey) (h : ks[p]? = some k) : keysOk ah (ks.drop p) = (keyOk ah k && keysOk k.1 (ks.drop (p + 1))) := by
  obtain ⟨hlt, rfl⟩ := List.getElem?_eq_some_iff.1 h
  rw [List.drop_eq_getElem_cons hlt]
  rfl
theorem longK_take (ks : List PKey) (p : Nat) (k : PKey) (h : ks[p]? = some k) : longK (ks.take (p + 1)) = (longK (ks.take p) || (decide (k.1.size > 64) || decide (k.2.size > 64))) := by
  rw [List.take_add_one, h]
  simp [longK]
theorem spot_field0 (x y : Int) (w : World) : (Instr.field 93 (.agg #[.int .i64 x, .int .i64 y]) 0).run Tryz.prog w = .ok (.int .i64 x) w := by kernel_rfl
/-- Where may's loop is. -/
def MayAt (st : PStep) (wA : World) (lv av iv : Value) (wr : World) : Prop := ∃ (p : Nat) (lg : Bool) (ah : ByteArray), lv = .bool lg ∧ av = .string ah ∧ iv = .int .i64 (p : Int) ∧ p ≤ st.2.length ∧
  Below wA.heap.size wA wr ∧ keysOk ByteArray.empty st.2 = keysOk ah (st.2.drop p) ∧ lg = (decide (st.1.size > 64) || longK (st.2.take p))

end Go.Proofs.YtfpepdjffehbcaaGreat
/-
  The walk of path.text. Condition: the step is small (its name, keys and values).
-/
set_option linter.unusedVariables false
set_option linter.unusedSimpArgs false
namespace Go.Proofs.YtfpepdjffehbcaaGreat
open Go.RowKit

def dressB (b : UInt8) : List UInt8 := if 0 ≤ specialI (b.toNat : Int) then [92, b] else [b]
def dressL (l : List UInt8) : List UInt8 := l.flatMap dressB
def keyText (k : PKey) : List UInt8 := [91] ++ k.1.data.toList ++ [61] ++ dressL k.2.data.toList ++ [93]
def textL (st : PStep) : List UInt8 := st.1.data.toList ++ st.2.flatMap keyText
def StepSmall (st : PStep) : Prop := st.1.size ≤ 2000000 ∧ st.2.length ≤ 400000 ∧ ∀ k ∈ st.2, k.1.size ≤ 2000000 ∧ k.2.size ≤ 2000000
theorem dressL_len (l : List UInt8) : (dressL l).length ≤ 2 * l.length := by
  induction l with
  | nil => simp [dressL]
  | cons b l ih =>
    simp only [dressL, List.flatMap_cons, List.length_append, List.length_cons] at ih ⊢
    have : (dressB b).length ≤ 2 := by unfold dressB; split <;> simp
    omega
theorem keyText_len (k : PKey) (h : k.1.size ≤ 2000000 ∧ k.2.size ≤ 2000000) : (keyText k).length ≤ 6000003 := by
  have := dressL_len k.2.data.toList
  simp only [keyText, List.length_append, List.length_cons, List.length_nil, ba_len] at this ⊢
  omega
theorem keysText_len (ks : List PKey) (h : ∀ k ∈ ks, k.1.size ≤ 2000000 ∧ k.2.size ≤ 2000000) : (ks.flatMap keyText).length ≤ ks.length * 6000003 := by
  induction ks with
  | nil => simp
  | cons k ks ih =>
    have h1 := keyText_len k (h k (by simp))
    have h2 := ih fun x hx => h x (by simp [hx])
    simp only [List.flatMap_cons, List.length_append, List.length_cons]
    omega
theorem textL_len {st : PStep} (h : StepSmall st) : (textL st).length ≤ 2500000000000 := by
  have h1 := keysText_len st.2 h.2.2
  have h2 := h.1
  have h3 := h.2.1
  simp only [textL, List.length_append, ba_len]
  omega
theorem textPre_len {st : PStep} (h : StepSmall st) (p : Nat) : (st.1.data.toList ++ (st.2.take p).flatMap keyText).length ≤ 2500000000000 := by
  have h1 := keysText_len (st.2.take p) fun k hk => h.2.2 k (List.mem_of_mem_take hk)
  have h2 := h.1
  have h3 := h.2.1
  have h4 := List.length_take_le' p st.2
  simp only [List.length_append, ba_len]
  omega
abbrev SB (B : Nat) (l : List UInt8) (w : World) : Prop := Lib.IsBuilderF 185 5 B B (Lib.byteCells l) w
theorem byteCells_bvs (l : List UInt8) : Lib.byteCells l = bvs l := rfl
theorem sb_str {B : Nat} {l : List UInt8} {s : ByteArray} {w : World} (h : Lib.BuilderAtF 185 5 B B (.pointer (some ⟨B, 0, none⟩)) (Lib.byteCells l ++ Lib.strCells s) w) : SB B (l ++ s.data.toList) w := by
  refine .inr ?_
  rw [show Lib.byteCells (l ++ s.data.toList) = Lib.byteCells l ++ Lib.strCells s by simp [Lib.byteCells, Lib.strCells]]
  exact h
theorem sb_byt {B : Nat} {l : List UInt8} {b : UInt8} {w : World} (h : Lib.BuilderAtF 185 5 B B (.pointer (some ⟨B, 0, none⟩)) (Lib.byteCells l ++ [.int .u8 (b.toNat : Int)]) w) : SB B (l ++ [b]) w := by
  refine .inr ?_
  rw [show Lib.byteCells (l ++ [b]) = Lib.byteCells l ++ [.int .u8 (b.toNat : Int)] by simp [Lib.byteCells]]
  exact h
theorem Blk.others {w w' : World} {k : Nat} {t : TypeId} {cs : Array Value} {b : Nat} (h : Blk w k t cs) (hk : Lib.OthersKept 5 (some b) w w') (hb : k ≠ b) (ht : t ≠ 5) : Blk w' k t cs :=
  hk k _ h (by simpa using hb) (fun c fz e => ht (by cases e; rfl))
def TextPost (st : PStep) (w : World) (en : Ending) (w' : World) : Prop := en = .returned (.string (str (textL st))) ∧ Below w.heap.size w w'

theorem sb_lt {B : Nat} {l : List UInt8} {w : World} (h : SB B l w) : B < w.heap.size := by
  rcases h with h | h <;> exact Lib.BuilderAtF.lt h
def TextAt (nm : ByteArray) (ks : List PKey) (B : Nat) (wA : World) (p : Nat) (wr : World) : Prop :=
  SB B (nm.data.toList ++ (ks.take p).flatMap keyText) wr ∧ Below B wA wr ∧ p ≤ ks.length
def KeyAt (acc : List UInt8) (k : PKey) (B kb : Nat) (wA : World) (q : Nat) (wr : World) : Prop :=
  SB B (acc ++ dressL (k.2.data.toList.take q)) wr ∧ Below B wA wr ∧ Blk wr kb 193 #[.string k.1, .string k.2] ∧ q ≤ k.2.size
theorem textAt_next {nm : ByteArray} {ks : List PKey} {B : Nat} {wA : World} {p : Nat} {wr : World} {k : PKey} (hk : ks[p]? = some k)
    (h : SB B ((nm.data.toList ++ (ks.take p).flatMap keyText ++ ([91] ++ k.1.data.toList ++ [61])) ++ dressL k.2.data.toList ++ [93]) wr) (hb : Below B wA wr) : TextAt nm ks B wA (p + 1) wr := by
  have hlt := (List.getElem?_eq_some_iff.1 hk).1
  refine ⟨?_, hb, by omega⟩
  rw [List.take_add_one, hk]
  simpa [keyText, List.flatMap_append] using h
theorem dressL_take (l : List UInt8) (q : Nat) (b : UInt8) (h : l[q]? = some b) : dressL (l.take (q + 1)) = dressL (l.take q) ++ dressB b := by
  rw [List.take_add_one, h]
  simp [dressL, List.flatMap_append]
end Go.Proofs.YtfpepdjffehbcaaGreat
/-
  The walk of path.put. Condition: the steps are small, at most 1000 of them.
-/
set_option linter.unusedVariables false
set_option linter.unusedSimpArgs false
namespace Go.Proofs.YtfpepdjffehbcaaGreat
open Go.RowKit

def putF : List PStep → Bool → Nat → List (List UInt8) → Except Int (Bool × Nat × List (List UInt8))
  | [], sh, sz, ts => .ok (sh, sz, ts)
  | st :: l, sh, sz, ts =>
    if (mayM st).1 = true then putF l (sh && (mayM st).2) (if sz ≤ 513 then sz + ((textL st).length + 1) else sz) (if sz ≤ 513 then ts ++ [textL st] else ts)
    else .error 160
def putM (l : List PStep) : Except Int (List UInt8) := match putF l (decide (l.length ≤ 64)) 0 [] with
  | .error e => .error e
  | .ok (sh, sz, ts) => if sh = true ∧ sz ≤ 513 then .ok (Lib.join ts [47]) else .error 3
def putS (r : Except Int (List UInt8)) : ByteArray := match r with
  | .ok t => str t
  | .error _ => ByteArray.empty
def putE (r : Except Int (List UInt8)) : Int := match r with
  | .ok _ => 0
  | .error e => e
def PutPost (l : List PStep) (w : World) (en : Ending) (w' : World) : Prop := en = .returned (.tuple #[.string (putS (putM l)), .int .i64 (putE (putM l))]) ∧ Below w.heap.size w w'
def PutIn (w : World) (A : Option Addr) (ls : List LRow) (l : List PStep) (vs : List Value) : Prop :=
  ListsAt w A ls ∧ flatL ls = stepCells l vs ∧ sumL ls = l.length ∧ vs.length = l.length ∧
  (∀ (i : Nat) (st : PStep) (kv : Value), l[i]? = some st → vs[i]? = some kv → KeysAt w w.heap.size kv st.2) ∧ (∀ st ∈ l, StepSmall st) ∧ l.length ≤ 600000 ∧ ls.length ≤ 1000
def sumT (ts : List (List UInt8)) : Nat := (ts.map fun t => t.length + 1).sum
theorem joinTail_len (r : List (List UInt8)) : (Lib.joinTail [47] r).length = sumT r := by
  induction r with
  | nil => rfl
  | cons x r ih =>
    simp only [Lib.joinTail, sumT, List.map_cons, List.flatten_cons, List.length_append, List.sum_cons, List.length_cons, List.length_nil] at ih ⊢
    omega
theorem join_len (ts : List (List UInt8)) : (Lib.join ts [47]).length ≤ sumT ts := by
  cases ts with
  | nil => simp [Lib.join_nil]
  | cons x r =>
    rw [Lib.join_cons, List.length_append, joinTail_len]
    simp only [sumT, List.map_cons, List.sum_cons]
    omega
theorem str_back (ts : List (List UInt8)) : (ts.map str).map (fun s => s.data.toList) = ts := by
  rw [List.map_map]
  exact List.map_id'' (fun t => by simp [str]) ts
/-- Where put's loop is. -/
def PutAt (l : List PStep) (base : Nat) (wA : World) (v4 : Value) (cs : List Value) (p : Nat) (sh : Bool) (sz : Nat) (ts : List (List UInt8)) (v : Value) (wr : World) : Prop :=
  p ≤ l.length ∧ (sz ≤ 2600000000000 ∧ sz = sumT ts) ∧ ts.length ≤ p ∧ putF l (decide (l.length ≤ 64)) 0 [] = putF (l.drop p) sh sz ts ∧
  wr.ownsRow base 138 2 v4 l.length cs ∧ wr.ownsRow base 9 1 v ts.length (ts.map fun t => .string (str t)) ∧ Below base wA wr
theorem string_info : (Tryz.prog.info? 9).map (fun i => (i.zero, i.size, i.bytes)) = some (some (.string ByteArray.empty), 1, 16) := by kernel_rfl

theorem own_reads {w : World} {base : Nat} {e : TypeId} {size n c : Nat} {A : Option Addr} {xs : List Value} (h : w.ownsRow base e size (.slice A n c) n xs) : Reads w w.heap.size size A n xs := by
  obtain ⟨A', c', heq, -, -, hrd⟩ := own_form h
  cases heq
  exact hrd
theorem KeysAt.more {w w' : World} {B B' : Nat} {v : Value} {ks : List PKey} (h : KeysAt w B v ks) (hb : Below B w w') (hB : B ≤ B') : KeysAt w' B' v ks := by
  obtain ⟨A, c, e, h1, h2, h3⟩ := h
  exact ⟨A, c, e, h1, h2, (h3.below hb).more hB⟩
theorem StepSmall.keys {st : PStep} (h : StepSmall st) : KeysSmall st.2 ∧ st.1.size ≤ 140737488355328 :=
  ⟨⟨by have := h.2.1; omega, fun k hk => by have := h.2.2 k hk; omega⟩, by have := h.1; omega⟩
theorem putF_step {l : List PStep} {p : Nat} {st : PStep} {sh : Bool} {sz : Nat} {ts : List (List UInt8)} (h : l[p]? = some st) : putF (l.drop p) sh sz ts =
    if (mayM st).1 = true then putF (l.drop (p + 1)) (sh && (mayM st).2) (if sz ≤ 513 then sz + ((textL st).length + 1) else sz) (if sz ≤ 513 then ts ++ [textL st] else ts) else .error 160 := by
  obtain ⟨hlt, rfl⟩ := List.getElem?_eq_some_iff.1 h
  rw [List.drop_eq_getElem_cons hlt]
  rfl
end Go.Proofs.YtfpepdjffehbcaaGreat
/-
  What path.Parse gives is small; no program in sight. Plain Lean; no condition.
-/
set_option linter.unusedVariables false
set_option linter.unusedSimpArgs false
namespace Go.Proofs.YtfpepdjffehbcaaGreat
open Go.RowKit

theorem nameM_small {s : ByteArray} {p q : Nat} {nm : ByteArray} (h : nameM s p = .ok (nm, q)) (hp : p ≤ s.size) : nm.size ≤ 64 ∧ p < q := by
  obtain ⟨h1, h2, rfl, h4, h5⟩ := nameM_ok h hp
  unfold nameErr at h5
  split at h5
  · rename_i hlt
    split at h5
    · rename_i hst
      split at h5
      · cases h5
      · rename_i h64
        have hn : nameB s[p] = true := by simp [nameB, hst]
        have e := nameEnd_step hlt
        rw [if_pos hn] at e
        have l := (nameEnd_le (s := s) (p := p + 1) (by omega)).1
        rw [← e, ← h4] at l
        rw [← h4] at h64
        refine ⟨?_, by omega⟩
        simp
        omega
    · cases h5
  · cases h5
theorem valF_small (s : ByteArray) (fr : Nat) : ∀ (k q : Nat) (esc : Bool) (out l : List UInt8) (r : Nat), valF k s fr q esc out = .ok (l, r) → l.length ≤ 64 := by
  intro k
  induction k with
  | zero => intro q esc out l r h; cases h
  | succ k ih =>
    intro q esc out l r h
    simp only [valF] at h
    split at h
    · split at h
      · split at h
        · exact ih _ _ _ _ _ h
        · cases h
      · split at h
        · exact ih _ _ _ _ _ h
        · split at h
          · split at h
            · cases h
            · rename_i h64
              simp only [Except.ok.injEq, Prod.mk.injEq] at h
              rw [← h.1]
              omega
          · split at h
            · cases h
            · exact ih _ _ _ _ _ h
    · cases h
theorem valAt_small {s : ByteArray} {fr q r : Nat} {esc : Bool} {out l : List UInt8} (h : valAt s fr q esc out = .ok (l, r)) : l.length ≤ 64 := valF_small s fr _ q esc out l r h
def KeysTiny (ks : List PKey) : Prop := ∀ k ∈ ks, k.1.size ≤ 64 ∧ k.2.size ≤ 64
theorem keysF_small (s : ByteArray) : ∀ (k p : Nat) (ks l : List PKey) (q : Nat), p ≤ s.size → keysF k s p ks = .ok (l, q) → KeysTiny ks → ks.length ≤ p → KeysTiny l ∧ l.length ≤ q := by
  intro k
  induction k with
  | zero => intro p ks l q hp h ht hl; simp [keysF] at h; rw [← h.1, ← h.2]; exact ⟨ht, hl⟩
  | succ k ih =>
    intro p ks l q hp h ht hl
    simp only [keysF] at h
    split at h
    · rename_i hb
      have hlt := stands_lt hb
      cases hn : nameM s (p + 1) with
      | error e => rw [hn] at h; cases h
      | ok x =>
        obtain ⟨key, q1⟩ := x
        have hq := nameM_ok hn (by omega)
        have hsm := nameM_small hn (by omega)
        rw [hn] at h
        simp only at h
        split at h
        · split at h
          · cases hv : valAt s (q1 + 1) (q1 + 1) false [] with
            | error e => rw [hv] at h; cases h
            | ok y =>
              obtain ⟨v, r⟩ := y
              have hr := valAt_ok hv
              have hvs := valAt_small hv
              rw [hv] at h
              simp only at h
              refine ih r _ _ _ hr.2 h ?_ (by simp; omega)
              intro k hk
              rcases List.mem_append.1 hk with hk | hk
              · exact ht k hk
              · simp at hk
                subst hk
                exact ⟨hsm.1, by show (str v).size ≤ 64; rw [show (str v).size = v.length from by show v.toArray.size = _; simp]; exact hvs⟩
          · cases h
        · cases h
    · simp at h
      rw [← h.1, ← h.2]
      exact ⟨ht, hl⟩
def StepTiny (st : PStep) : Prop := st.1.size ≤ 64 ∧ st.2.length ≤ 512 ∧ KeysTiny st.2
theorem StepTiny.small {st : PStep} (h : StepTiny st) : StepSmall st := ⟨by have := h.1; omega, by have := h.2.1; omega, fun k hk => by have := h.2.2 k hk; omega⟩
theorem stepM_small {s : ByteArray} {p q : Nat} {st : PStep} (h : stepM s p = .ok (st, q)) (hp : p ≤ s.size) (hs : s.size ≤ 512) : StepTiny st := by
  unfold stepM at h
  cases hn : nameM s p with
  | error e => rw [hn] at h; cases h
  | ok x =>
    obtain ⟨nm, q1⟩ := x
    have hq := nameM_ok hn hp
    have hsm := nameM_small hn hp
    rw [hn] at h
    simp only at h
    cases hk : keysM s q1 [] with
    | error e => rw [hk] at h; cases h
    | ok y =>
      obtain ⟨ks, r⟩ := y
      rw [hk] at h
      simp at h
      have h1 := keysF_small s _ q1 [] ks r hq.2.1 hk (fun k hk => (by cases hk)) (Nat.zero_le _)
      have h2 := keysF_ok s _ q1 [] ks r hq.2.1 hk
      rw [← h.1]
      exact ⟨hsm.1, by show ks.length ≤ 512; omega, h1.1⟩
theorem stepsF_small (s : ByteArray) (hs : s.size ≤ 512) : ∀ (k p : Nat) (l m : List PStep), p ≤ s.size → stepsF k s p l = .ok m → (∀ st ∈ l, StepTiny st) → l.length ≤ 64 → (∀ st ∈ m, StepTiny st) ∧ m.length ≤ 64 ∧ 0 < m.length := by
  intro k
  induction k with
  | zero => intro p l m hp h; cases h
  | succ k ih =>
    intro p l m hp h ht hl
    simp only [stepsF] at h
    split at h
    · cases h
    · rename_i h64
      cases hn : stepM s p with
      | error e => rw [hn] at h; cases h
      | ok x =>
        obtain ⟨st, q⟩ := x
        have hq := stepM_ok hn hp
        have hsm := stepM_small hn hp hs
        rw [hn] at h
        simp only at h
        have hall : ∀ x ∈ l ++ [st], StepTiny x := by
          intro x hx
          rcases List.mem_append.1 hx with hx | hx
          · exact ht x hx
          · simp at hx; rw [hx]; exact hsm
        split at h
        · simp at h
          rw [← h]
          exact ⟨hall, by simp; omega, by simp⟩
        · split at h
          · rename_i hb
            exact ih (q + 1) _ _ (stands_lt hb) h hall (by simp; omega)
          · cases h
theorem parseM_small {s : ByteArray} {l : List PStep} (h : parseM s = .ok l) : (∀ st ∈ l, StepTiny st) ∧ l.length ≤ 64 ∧ s.size ≤ 512 ∧ (l = [] ↔ s.size = 0) := by
  unfold parseM at h
  split at h
  · cases h
  · rename_i h512
    split at h
    · cases h
    · split at h
      · rename_i h0
        simp at h
        subst h
        exact ⟨fun st hst => (by cases hst), by simp, by omega, by simp [h0]⟩
      · rename_i h0
        have := stepsF_small s (by omega) _ 0 [] l (by omega) h (fun st hst => (by cases hst)) (by simp)
        refine ⟨this.1, this.2.1, by omega, ?_⟩
        constructor
        · rintro rfl
          simp at this
        · intro e
          exact absurd e h0
def Bad (x : Int) : Prop := x = 3 ∨ x = 160
theorem nameErr_bad {s : ByteArray} {p : Nat} {x y : Int} (h : nameErr s p = some (x, y)) : Bad x := by
  unfold nameErr at h
  repeat' split at h
  all_goals first | (simp at h; exact .inl h.1.symm) | (simp at h; exact .inr h.1.symm) | cases h
theorem nameM_bad {s : ByteArray} {p : Nat} {x y : Int} (h : nameM s p = .error (x, y)) : Bad x := by
  unfold nameM at h
  cases hn : nameErr s p with
  | none => rw [hn] at h; cases h
  | some e =>
    rw [hn] at h
    simp at h
    subst h
    exact nameErr_bad hn
theorem valF_bad (s : ByteArray) (fr : Nat) : ∀ (k q : Nat) (esc : Bool) (out : List UInt8) (x y : Int), valF k s fr q esc out = .error (x, y) → Bad x := by
  intro k
  induction k with
  | zero => intro q esc out x y h; simp [valF] at h; exact .inr h.1.symm
  | succ k ih =>
    intro q esc out x y h
    simp only [valF] at h
    repeat' split at h
    all_goals first | exact ih _ _ _ _ _ h | (simp at h; exact .inl h.1.symm) | (simp at h; exact .inr h.1.symm) | cases h
theorem keysF_bad (s : ByteArray) : ∀ (k p : Nat) (ks : List PKey) (x y : Int), keysF k s p ks = .error (x, y) → Bad x := by
  intro k
  induction k with
  | zero => intro p ks x y h; cases h
  | succ k ih =>
    intro p ks x y h
    simp only [keysF] at h
    split at h
    · cases hn : nameM s (p + 1) with
      | error e => rw [hn] at h; simp at h; subst h; exact nameM_bad hn
      | ok z =>
        obtain ⟨key, q1⟩ := z
        rw [hn] at h
        simp only at h
        split at h
        · split at h
          · cases hv : valAt s (q1 + 1) (q1 + 1) false [] with
            | error e => rw [hv] at h; simp at h; subst h; exact valF_bad _ _ _ _ _ _ _ _ hv
            | ok z2 =>
              obtain ⟨v, r⟩ := z2
              rw [hv] at h
              simp only at h
              exact ih _ _ _ _ h
          · simp at h; exact .inr h.1.symm
        · simp at h; exact .inr h.1.symm
    · cases h
theorem stepM_bad {s : ByteArray} {p : Nat} {x y : Int} (h : stepM s p = .error (x, y)) : Bad x := by
  unfold stepM at h
  cases hn : nameM s p with
  | error e => rw [hn] at h; simp at h; subst h; exact nameM_bad hn
  | ok z =>
    obtain ⟨nm, q1⟩ := z
    rw [hn] at h
    simp only at h
    cases hk : keysM s q1 [] with
    | error e => rw [hk] at h; simp at h; subst h; exact keysF_bad _ _ _ _ _ _ hk
    | ok z2 => rw [hk] at h; simp at h
theorem stepsF_bad (s : ByteArray) : ∀ (k p : Nat) (l : List PStep) (x y : Int), stepsF k s p l = .error (x, y) → Bad x := by
  intro k
  induction k with
  | zero => intro p l x y h; simp [stepsF] at h; exact .inl h.1.symm
  | succ k ih =>
    intro p l x y h
    simp only [stepsF] at h
    split at h
    · simp at h; exact .inl h.1.symm
    · cases hn : stepM s p with
      | error e => rw [hn] at h; simp at h; subst h; exact stepM_bad hn
      | ok z =>
        obtain ⟨st, q⟩ := z
        rw [hn] at h
        simp only at h
        split at h
        · cases h
        · split at h
          · exact ih _ _ _ _ h
          · simp at h; exact .inr h.1.symm
theorem parseM_err {s : ByteArray} {x y : Int} (h : parseM s = .error (x, y)) : x = 3 ∨ x = 6 ∨ x = 160 := by
  unfold parseM at h
  split at h
  · simp at h; exact .inl h.1.symm
  · split at h
    · simp at h; exact .inr (.inl h.1.symm)
    · split at h
      · cases h
      · rcases stepsF_bad _ _ _ _ _ _ h with h | h
        · exact .inl h
        · exact .inr (.inr h)
end Go.Proofs.YtfpepdjffehbcaaGreat
/-
  A text that parses is the text of its steps; no program in sight. Plain Lean; no condition.
-/
namespace Go.Proofs.YtfpepdjffehbcaaGreat
open Go.RowKit

/-- The bytes from a to b. -/
def seg (s : ByteArray) (a b : Nat) : List UInt8 := (s.data.toList.drop a).take (b - a)
section
variable {s : ByteArray}
theorem seg_append {a b c : Nat} (h1 : a ≤ b) (h2 : b ≤ c) : seg s a b ++ seg s b c = seg s a c := by
  unfold seg
  rw [show c - a = (b - a) + (c - b) by omega, List.take_add, List.drop_drop, show a + (b - a) = b by omega]
theorem seg_self (a : Nat) : seg s a a = [] := by simp [seg]
theorem seg_one {p : Nat} (h : p < s.size) : seg s p (p + 1) = [s[p]] := by
  have hl : p < s.data.toList.length := by rw [ba_len]; exact h
  unfold seg
  rw [List.drop_eq_getElem_cons hl, show p + 1 - p = 1 by omega]
  rfl
theorem seg_all : seg s 0 s.size = s.data.toList := by
  unfold seg
  rw [List.drop_zero, Nat.sub_zero, List.take_of_length_le (by rw [ba_len]; omega)]
theorem extract_seg (p q : Nat) : (s.extract p q).data.toList = seg s p q := by
  rw [ByteArray.data_extract, Array.toList_extract]
  simp [seg, List.extract_eq_take_drop]
theorem brokenAt_go {p : Nat} (h : p < s.size) (hb : brokenAt s p = none) : Utf8.decode s p ≠ (65533, 1) ∧ brokenAt s (p + (Utf8.decode s p).2) = none := by
  rw [brokenAt_step h] at hb
  split at hb
  · cases hb
  · rename_i hne
    exact ⟨hne, hb⟩
theorem brokenAt_ascii {p : Nat} (h : p < s.size) (hb : brokenAt s p = none) (ha : s[p].toNat < 128) : brokenAt s (p + 1) = none := by
  have := (brokenAt_go h hb).2
  rw [decode_ascii s p h ha] at this
  exact this
theorem decode_low {p r n : Nat} (h : p < s.size) (hd : Utf8.decode s p = (r, n)) (hr : r < 128) : s[p].toNat = r ∧ n = 1 := by
  by_cases ha : s[p].toNat < 128
  · rw [decode_ascii s p h ha] at hd
    simp at hd
    omega
  · have := (decode_high s p h (by omega)).1
    rw [hd] at this
    simp only at this
    omega
end
theorem ofNat_toNat (n : Nat) : n.toUInt8 = UInt8.ofNat n := rfl
theorem encode_rune (r : Nat) : (Utf8.encode (r : Int)).data.toList = Lib.encodeRune (r : Int) := by
  unfold Lib.encodeRune
  by_cases h1 : r ≤ 127
  · rw [Lib.encodeRuneZ_one (by omega) (by omega)]
    have hv : Utf8.valid (r : Int) = true := by simp [Utf8.valid]; omega
    simp [Utf8.encode, hv, show r < 128 by omega]
  · by_cases h2 : r ≤ 2047
    · rw [Lib.encodeRuneZ_two (by omega) (by omega)]
      have hv : Utf8.valid (r : Int) = true := by simp [Utf8.valid]; omega
      have e1 : ((192 : Int) + (r : Int) / 64).toNat = 192 + r / 64 := by omega
      have e2 : ((128 : Int) + (r : Int) % 64).toNat = 128 + r % 64 := by omega
      simp only [Utf8.encode, hv, if_true, Int.toNat_natCast, List.map_cons, List.map_nil, e1, e2]
      rw [if_neg (by omega), if_pos (by omega)]
    · by_cases h3 : r < 55296 ∨ (57343 < r ∧ r ≤ 65535)
      · rw [Lib.encodeRuneZ_three (by omega)]
        have hv : Utf8.valid (r : Int) = true := by simp [Utf8.valid]; omega
        have e1 : ((224 : Int) + (r : Int) / 4096).toNat = 224 + r / 4096 := by omega
        have e2 : ((128 : Int) + (r : Int) / 64 % 64).toNat = 128 + r / 64 % 64 := by omega
        have e3 : ((128 : Int) + (r : Int) % 64).toNat = 128 + r % 64 := by omega
        simp only [Utf8.encode, hv, if_true, Int.toNat_natCast, List.map_cons, List.map_nil, e1, e2, e3]
        rw [if_neg (by omega), if_neg (by omega), if_pos (by omega)]
      · by_cases h4 : 65536 ≤ r ∧ r ≤ 1114111
        · rw [Lib.encodeRuneZ_four (by omega) (by omega)]
          have hv : Utf8.valid (r : Int) = true := by simp [Utf8.valid]; omega
          have e1 : ((240 : Int) + (r : Int) / 262144).toNat = 240 + r / 262144 := by omega
          have e2 : ((128 : Int) + (r : Int) / 4096 % 64).toNat = 128 + r / 4096 % 64 := by omega
          have e3 : ((128 : Int) + (r : Int) / 64 % 64).toNat = 128 + r / 64 % 64 := by omega
          have e4 : ((128 : Int) + (r : Int) % 64).toNat = 128 + r % 64 := by omega
          simp only [Utf8.encode, hv, if_true, Int.toNat_natCast, List.map_cons, List.map_nil, e1, e2, e3, e4]
          rw [if_neg (by omega), if_neg (by omega), if_neg (by omega)]
        · rw [Lib.encodeRuneZ_bad (by omega)]
          have hv : Utf8.valid (r : Int) = false := by simp [Utf8.valid]; omega
          simp [Utf8.encode, hv, Utf8.runeError]
theorem enc_seg {s : ByteArray} {p : Nat} (h : p < s.size) (hd : Utf8.decode s p ≠ (65533, 1)) : (Utf8.encode ((Utf8.decode s p).1 : Int)).data.toList = seg s p (p + (Utf8.decode s p).2) := by
  rw [encode_rune, ← Lib.decodeL_drop]
  rw [Lib.encode_decode _ (fun e => by have := congrArg List.length e; rw [List.length_drop, ba_len] at this; simp at this; omega) (fun e => hd (by rw [← Lib.decodeL_drop]; exact Prod.ext e.1 e.2))]
  unfold seg
  rw [show p + (Lib.decodeL (s.data.toList.drop p)).2 - p = (Lib.decodeL (s.data.toList.drop p)).2 by omega]
theorem special_iff (b : UInt8) : (0 ≤ specialI (b.toNat : Int)) ↔ (b = 91 ∨ b = 93 ∨ b = 47 ∨ b = 61 ∨ b = 92) := by
  have h : ∀ n : Fin 256, (0 ≤ specialI ((UInt8.ofNat n.val).toNat : Int)) ↔ ((UInt8.ofNat n.val) = 91 ∨ (UInt8.ofNat n.val) = 93 ∨ (UInt8.ofNat n.val) = 47 ∨ (UInt8.ofNat n.val) = 61 ∨ (UInt8.ofNat n.val) = 92) := by decide +kernel
  have := h ⟨b.toNat, b.toNat_lt⟩
  simpa using this
theorem dressL_append (a b : List UInt8) : dressL (a ++ b) = dressL a ++ dressL b := by simp [dressL]
theorem dressB_plain {b : UInt8} (h : ¬ (0 ≤ specialI (b.toNat : Int))) : dressB b = [b] := by unfold dressB; rw [if_neg h]
theorem dressL_plain : ∀ (l : List UInt8), (∀ b ∈ l, ¬ (0 ≤ specialI (b.toNat : Int))) → dressL l = l
  | [], _ => rfl
  | b :: l, h => by
    have h1 := dressB_plain (h b (by simp))
    have h2 := dressL_plain l fun x hx => h x (by simp [hx])
    simp only [dressL, List.flatMap_cons] at h2 ⊢
    rw [h1, h2]
    rfl
theorem rune_high {r : Nat} (h : 128 ≤ r) : ∀ b ∈ Lib.encodeRune (r : Int), 128 ≤ b.toNat := by
  intro b hb
  obtain ⟨x, hx, rfl⟩ := List.mem_map.1 hb
  have hx2 := Lib.encodeRuneZ_byte (r : Int) x hx
  have : 128 ≤ x := by
    unfold Lib.encodeRuneZ at hx
    repeat' split at hx
    all_goals (simp at hx; omega)
  have e : x.toNat.toUInt8.toNat = x.toNat := by simp; omega
  omega
def tailE (esc : Bool) : List UInt8 := if esc = true then [92] else []
theorem valF_back (s : ByteArray) (fr : Nat) : ∀ (k q : Nat) (esc : Bool) (out l : List UInt8) (r : Nat), valF k s fr q esc out = .ok (l, r) → brokenAt s q = none → fr ≤ q → q ≤ s.size → dressL out ++ tailE esc = seg s fr q →
    seg s fr r = dressL l ++ [93] ∧ brokenAt s r = none ∧ q < r ∧ r ≤ s.size := by
  intro k
  induction k with
  | zero => intro q esc out l r h; cases h
  | succ k ih =>
    intro q esc out l r h hb h1 h2 hi
    simp only [valF] at h
    split at h
    · rename_i hq
      have hgo := brokenAt_go hq hb
      have hd1 := decode_pos s q
      have hd2 := decode_in hq
      have hd : Utf8.decode s q = ((Utf8.decode s q).1, (Utf8.decode s q).2) := rfl
      split at h
      · rename_i he
        split at h
        · rename_i hsp
          obtain ⟨hb1, hn1⟩ := decode_low hq hd hsp.1
          have hby : (Utf8.decode s q).1.toUInt8 = s[q] := by rw [← hb1]; simp
          rw [hn1, hby] at h
          have hb2 := hgo.2
          rw [hn1] at hb2
          refine (ih _ _ _ _ _ h hb2 (by omega) (by omega) ?_).imp_right fun h => ⟨h.1, by omega, h.2.2⟩
          have hs2 : 0 ≤ specialI (s[q].toNat : Int) := by rw [hb1]; exact hsp.2
          rw [dressL_append, show dressL [s[q]] = [92, s[q]] by simp [dressL, dressB, hs2], ← seg_append h1 (Nat.le_succ q), ← hi, he, seg_one hq]
          simp [tailE]
        · cases h
      · rename_i he
        have he : esc = false := by simpa using he
        subst he
        split at h
        · rename_i h92
          obtain ⟨hb1, hn1⟩ := decode_low hq hd (by omega)
          rw [hn1] at h
          have hb2 := hgo.2
          rw [hn1] at hb2
          refine (ih _ _ _ _ _ h hb2 (by omega) (by omega) ?_).imp_right fun h => ⟨h.1, by omega, h.2.2⟩
          have hby : s[q] = 92 := UInt8.toNat_inj.1 (by rw [hb1, h92]; rfl)
          rw [← seg_append h1 (Nat.le_succ q), ← hi, seg_one hq, hby]
          simp [tailE]
        · split at h
          · rename_i h92 h93
            split at h
            · cases h
            · simp only [Except.ok.injEq, Prod.mk.injEq] at h
              obtain ⟨rfl, rfl⟩ := h
              obtain ⟨hb1, hn1⟩ := decode_low hq hd (by omega)
              have hby : s[q] = 93 := UInt8.toNat_inj.1 (by rw [hb1, h93]; rfl)
              refine ⟨?_, brokenAt_ascii hq hb (by rw [hb1]; omega), by omega, by omega⟩
              rw [← seg_append h1 (Nat.le_succ q), ← hi, seg_one hq, hby]
              simp [tailE]
          · split at h
            · cases h
            · rename_i h92 h93 hbad
              refine (ih _ _ _ _ _ h hgo.2 (by omega) hd2 ?_).imp_right fun h => ⟨h.1, by omega, h.2.2⟩
              rw [enc_seg hq hgo.1, dressL_append, ← seg_append h1 (show q ≤ q + (Utf8.decode s q).2 by omega), ← hi]
              simp only [tailE, Bool.false_eq_true, if_false, List.append_nil]
              congr 1
              rw [← enc_seg hq hgo.1]
              refine dressL_plain _ ?_
              intro b hbm
              rw [special_iff]
              by_cases hr : (Utf8.decode s q).1 < 128
              · have e : (Utf8.encode ((Utf8.decode s q).1 : Int)).data.toList = [(Utf8.decode s q).1.toUInt8] := by
                  rw [encode_rune]
                  unfold Lib.encodeRune
                  rw [Lib.encodeRuneZ_one (by omega) (by omega)]
                  simp
                rw [e] at hbm
                simp at hbm
                have hbn : b.toNat = (Utf8.decode s q).1 := by rw [hbm]; simp; omega
                have hz : ¬ ((Utf8.decode s q).1 = 91 ∨ (Utf8.decode s q).1 = 47 ∨ (Utf8.decode s q).1 = 61) := fun h => hbad (.inr h)
                rintro (rfl | rfl | rfl | rfl | rfl) <;> simp at hbn <;> omega
              · rw [encode_rune] at hbm
                have := rune_high (by omega) b hbm
                rintro (rfl | rfl | rfl | rfl | rfl) <;> simp at this
    · cases h
theorem nameB_low {b : UInt8} (h : nameB b = true) : b.toNat < 128 := by
  have hh : ∀ n : Fin 256, nameB (UInt8.ofNat n.val) = true → (UInt8.ofNat n.val).toNat < 128 := by decide +kernel
  have := hh ⟨b.toNat, b.toNat_lt⟩
  simp only [UInt8.ofNat_toNat] at this
  exact this h
theorem nameEndF_valid (s : ByteArray) : ∀ k p, p ≤ s.size → brokenAt s p = none → brokenAt s (nameEndF k s p) = none := by
  intro k
  induction k with
  | zero => intro p _ h; exact h
  | succ k ih =>
    intro p hp h
    simp only [nameEndF]
    split
    · rename_i hlt
      split
      · rename_i hn
        exact ih (p + 1) hlt (brokenAt_ascii hlt h (nameB_low hn))
      · exact h
    · exact h
theorem stands_valid {s : ByteArray} {p : Nat} {b : UInt8} (h : standsB s p b = true) (hb : b.toNat < 128) (hv : brokenAt s p = none) : brokenAt s (p + 1) = none ∧ seg s p (p + 1) = [b] := by
  obtain ⟨hl, he⟩ := stands_at h
  exact ⟨brokenAt_ascii hl hv (by rw [he]; exact hb), by rw [seg_one hl, he]⟩
theorem keysF_back (s : ByteArray) : ∀ (k p : Nat) (ks l : List PKey) (q : Nat), p ≤ s.size → brokenAt s p = none → keysF k s p ks = .ok (l, q) → l.flatMap keyText = ks.flatMap keyText ++ seg s p q ∧ brokenAt s q = none ∧ p ≤ q ∧ q ≤ s.size := by
  intro k
  induction k with
  | zero =>
    intro p ks l q hp hb h
    simp [keysF] at h
    rw [← h.1, ← h.2, seg_self]
    exact ⟨by simp, hb, Nat.le_refl _, hp⟩
  | succ k ih =>
    intro p ks l q hp hb h
    simp only [keysF] at h
    split at h
    · rename_i hbr
      have hlt := stands_lt hbr
      have hv1 := stands_valid hbr (by decide) hb
      cases hn : nameM s (p + 1) with
      | error e => rw [hn] at h; cases h
      | ok x =>
        obtain ⟨key, q1⟩ := x
        have hq := nameM_ok hn (by omega)
        rw [hn] at h
        simp only at h
        split at h
        · split at h
          · rename_i hr he
            have hvn : brokenAt s q1 = none := by rw [hq.2.2.2.1]; exact nameEndF_valid s _ _ (by omega) hv1.1
            have hv2 := stands_valid he (by decide) hvn
            have hlt2 := stands_lt he
            cases hv : valAt s (q1 + 1) (q1 + 1) false [] with
            | error e => rw [hv] at h; cases h
            | ok y =>
              obtain ⟨v, r⟩ := y
              rw [hv] at h
              simp only at h
              have hvb := valF_back s (q1 + 1) _ (q1 + 1) false [] v r hv hv2.1 (Nat.le_refl _) (by omega) (by simp [tailE, dressL, seg_self])
              obtain ⟨e1, e2, e3, e4⟩ := ih r _ _ _ hvb.2.2.2 hvb.2.1 h
              refine ⟨?_, e2, by omega, e4⟩
              rw [e1, List.flatMap_append, List.append_assoc]
              congr 1
              rw [← seg_append (show p ≤ p + 1 by omega) (show p + 1 ≤ q by omega), ← seg_append (show p + 1 ≤ q1 by omega) (show q1 ≤ q by omega), ← seg_append (show q1 ≤ q1 + 1 by omega) (show q1 + 1 ≤ q by omega), ← seg_append (show q1 + 1 ≤ r by omega) e3,
                hv1.2, hv2.2, hvb.1, ← extract_seg (p + 1) q1, ← hq.2.2.1]
              simp [keyText, str]
          · cases h
        · cases h
    · simp at h
      rw [← h.1, ← h.2, seg_self]
      exact ⟨by simp, hb, Nat.le_refl _, hp⟩
theorem stepM_back {s : ByteArray} {p q : Nat} {st : PStep} (h : stepM s p = .ok (st, q)) (hp : p ≤ s.size) (hb : brokenAt s p = none) : textL st = seg s p q ∧ brokenAt s q = none ∧ p ≤ q ∧ q ≤ s.size := by
  unfold stepM at h
  cases hn : nameM s p with
  | error e => rw [hn] at h; cases h
  | ok x =>
    obtain ⟨nm, q1⟩ := x
    have hq := nameM_ok hn hp
    rw [hn] at h
    simp only at h
    cases hk : keysM s q1 [] with
    | error e => rw [hk] at h; cases h
    | ok y =>
      obtain ⟨ks, r⟩ := y
      rw [hk] at h
      simp at h
      have hvn : brokenAt s q1 = none := by rw [hq.2.2.2.1]; exact nameEndF_valid s _ _ hp hb
      obtain ⟨e1, e2, e3, e4⟩ := keysF_back s _ q1 [] ks r hq.2.1 hvn hk
      rw [← h.1, ← h.2]
      refine ⟨?_, e2, by omega, e4⟩
      simp only [textL]
      rw [e1, hq.2.2.1, extract_seg, ← seg_append hq.1 e3]
      simp
theorem stepsF_back (s : ByteArray) : ∀ (k p : Nat) (l m : List PStep), p ≤ s.size → brokenAt s p = none → stepsF k s p l = .ok m → ∃ rest, m = l ++ rest ∧ rest ≠ [] ∧ Lib.join (rest.map textL) [47] = seg s p s.size := by
  intro k
  induction k with
  | zero => intro p l m hp hb h; cases h
  | succ k ih =>
    intro p l m hp hb h
    simp only [stepsF] at h
    split at h
    · cases h
    · cases hn : stepM s p with
      | error e => rw [hn] at h; cases h
      | ok x =>
        obtain ⟨st, q⟩ := x
        obtain ⟨e1, e2, e3, e4⟩ := stepM_back hn hp hb
        rw [hn] at h
        simp only at h
        split at h
        · rename_i hq
          simp at h
          exact ⟨[st], h.symm, by simp, by rw [← hq]; simp [Lib.join_one, e1]⟩
        · split at h
          · rename_i hbr
            have hv := stands_valid hbr (by decide) e2
            have hlt := stands_lt hbr
            obtain ⟨rest, r1, r2, r3⟩ := ih (q + 1) _ _ hlt hv.1 h
            refine ⟨st :: rest, by rw [r1]; simp, by simp, ?_⟩
            rw [List.map_cons, Lib.join_cons]
            cases rest with
            | nil => exact absurd rfl r2
            | cons y ys =>
              rw [List.map_cons] at r3 ⊢
              rw [Lib.join_cons] at r3
              have : Lib.joinTail [47] (textL y :: List.map textL ys) = [47] ++ (textL y ++ Lib.joinTail [47] (List.map textL ys)) := by simp [Lib.joinTail]
              rw [this, r3, e1, ← seg_append e3 e4, ← seg_append (show q ≤ q + 1 by omega) (show q + 1 ≤ s.size by omega), hv.2]
          · cases h
theorem parse_text {s : ByteArray} {l : List PStep} (h : parseM s = .ok l) : Lib.join (l.map textL) [47] = s.data.toList := by
  unfold parseM at h
  split at h
  · cases h
  · split at h
    · cases h
    · rename_i hbr
      split at h
      · rename_i h0
        simp at h
        subst h
        have : s.data.toList = [] := List.eq_nil_of_length_eq_zero (by rw [ba_len]; exact h0)
        rw [this]
        rfl
      · obtain ⟨rest, r1, r2, r3⟩ := stepsF_back s _ 0 [] l (Nat.zero_le _) hbr h
        rw [r1, List.nil_append, r3, seg_all]
theorem parse_inj {a b : ByteArray} {l : List PStep} (ha : parseM a = .ok l) (hb : parseM b = .ok l) : a = b := by
  have h := (parse_text ha).symm.trans (parse_text hb)
  obtain ⟨⟨x⟩⟩ := a
  obtain ⟨⟨y⟩⟩ := b
  simp only at h
  rw [h]
end Go.Proofs.YtfpepdjffehbcaaGreat
/-
  The walks of slices.Equal at keys, of path.Rest's closure, of slices.EqualFunc at steps. Condition: at most 1000000 elements.
-/
namespace Go.Proofs.YtfpepdjffehbcaaGreat
open Go.RowKit

theorem ba_ext {a b : ByteArray} (h : a.toList = b.toList) : a = b := by
  rw [Lib.toList_data, Lib.toList_data] at h
  obtain ⟨⟨x⟩⟩ := a
  obtain ⟨⟨y⟩⟩ := b
  simp only at h
  rw [h]
theorem ba_beq (a b : ByteArray) : (a.toList == b.toList) = decide (a = b) := by
  by_cases h : a = b
  · subst h; simp
  · have : a.toList ≠ b.toList := fun e => h (ba_ext e)
    simp [h, this]
def EqPost (b : Bool) (w : World) (en : Ending) (w' : World) : Prop := en = .returned (.bool b) ∧ Below w.heap.size w w'

/-- A step, read: its struct value. -/
def StepV (w : World) (st : PStep) (v : Value) : Prop := ∃ kv, v = .agg #[.string st.1, kv] ∧ KeysAt w w.heap.size kv st.2
/-- A row of steps, read. -/
def StepsR (w : World) (v : Value) (l : List PStep) (vs : List Value) : Prop :=
  ∃ A c, v = .slice A l.length c ∧ l.length ≤ c ∧ c ≤ maxLen ∧ Reads w w.heap.size 2 A l.length (stepCells l vs) ∧ vs.length = l.length ∧ (∀ (i : Nat) (st : PStep) (kv : Value), l[i]? = some st → vs[i]? = some kv → KeysAt w w.heap.size kv st.2)
theorem StepsR.more {w w' : World} {v : Value} {l : List PStep} {vs : List Value} (h : StepsR w v l vs) (hb : Below w.heap.size w w') : StepsR w' v l vs := by
  obtain ⟨A, c, e, h1, h2, h3, h4, h5⟩ := h
  exact ⟨A, c, e, h1, h2, (h3.below hb).more hb.size, h4, fun i st kv hi hj => (h5 i st kv hi hj).more hb hb.size⟩
theorem StepsIn.reads {w : World} {base : Nat} {v : Value} {l : List PStep} {vs : List Value} (h : StepsIn w base v l vs) : StepsR w v l vs := by
  obtain ⟨h1, h2, h3⟩ := h
  obtain ⟨A, c, rfl, a, b, hr⟩ := own_form h2
  refine ⟨A, c, rfl, a, b, hr, h1, fun i st kv hi hj => ?_⟩
  obtain ⟨A', c', rfl, a', b', hr'⟩ := own_form (h3.1 i st kv hi hj)
  exact ⟨A', c', rfl, a', b', hr'⟩
end Go.Proofs.YtfpepdjffehbcaaGreat
/-
  The walks of path.Check, path.Rest and path.In. Condition: the strings are within the reach.
-/
namespace Go.Proofs.YtfpepdjffehbcaaGreat
open Go.RowKit

def ParseSays (s : ByteArray) (w : World) (en : Ending) (w' : World) : Prop := Below w.heap.size w w' ∧
  ((∃ x y, parseM s = .error (x, y) ∧ en = .returned (.tuple #[.slice none 0 0, .agg #[.int .i64 x, .int .i64 y]])) ∨ (∃ l v, parseM s = .ok l ∧ en = .returned (.tuple #[v, .agg #[.int .i64 0, .int .i64 0]]) ∧ StepsOwn w' w.heap.size v l))
theorem parse_says (s : ByteArray) (w : World) (hs : s.size ≤ 140737488355328) : Calls Tryz.prog 92 #[.string s] w (ParseSays s w) := parse_any s w hs
theorem results_row {fn : Func} {P : Program} {p : Tmp} {ty : TypeId} (h : fn.results = #[.cell p ty]) (tmps : Array Value) (w : World) (g : Nat) (t : TypeId) (cs : Array Value) (d : TypeDesc)
    (hp : tmps.getD p undef = .pointer (some ⟨g, 0, none⟩)) (hg : Blk w g t cs)
    (hu : P.underlying ty = some d) (hd : (match d with | .struct _ | .array _ _ => true | _ => false) = true) (hi : (P.info? ty).map (·.size) = some cs.size) : (results fn tmps).run P w = .ok (.agg cs) w :=
  results_cell_row h tmps w g t cs (0, 0) d hp hg hu hd hi
theorem check_result {tmps : Array Value} {w : World} {r0 : Nat} {x y : Int} (hB : Blk w r0 93 #[.int .i64 x, .int .i64 y]) (hp : tmps.getD 2 undef = .pointer (some ⟨r0, 0, none⟩)) :
    (results Tryz.f73 tmps).run Tryz.prog w = .ok (.agg #[.int .i64 x, .int .i64 y]) w :=
  results_row Tryz.results73 tmps w r0 93 #[.int .i64 x, .int .i64 y] _ hp hB Tryz.underlying93 rfl spot_info
def errOf (s : ByteArray) : Int × Int := match parseM s with
  | .error e => e
  | .ok _ => (0, 0)
def CheckPost (s : ByteArray) (w : World) (en : Ending) (w' : World) : Prop := en = .returned (.agg #[.int .i64 (errOf s).1, .int .i64 (errOf s).2]) ∧ Below w.heap.size w w'
set_option maxHeartbeats 1000000 in
theorem pcheck_any (s : ByteArray) (w : World) (hs : s.size ≤ 140737488355328) :
    Calls Tryz.prog 73 #[.string s] w (CheckPost s w) := by
  have HP := Lib.hid (fun W => parse_says s W hs)
  have HB0 := Lib.hid (Blk.new w 93 #[.int .i64 0, .int .i64 0])
  have HBA := Lib.hid (show Below w.heap.size w (w.alloc (.cells #[.int .i64 0, .int .i64 0] 93)) from (Below.refl _ _).alloc (Nat.le_refl _) _)
  go_enter Tryz.func73, Tryz.ntmps73
  go_upto_region 2 with (go_at_call 92; go_loud (refine (HP.out _).mono ?_; rintro en w1 ⟨hB1, ⟨x, y, hE, rfl⟩ | ⟨l, v, hE, rfl, hO⟩⟩; rotate_left; obtain ⟨vs, hI⟩ := hO; obtain ⟨A1, c1, rfl, -, -, -⟩ := own_form hI.2.1; clear hI; rotate_right; all_goals (have HE := Lib.hid hE; have HB1 := Lib.hid hB1; have HK := Lib.hid (HB0.out.below hB1 (Blk.lt HB0.out)); clear hE hB1)))
  · have HX := Lib.hid (show errOf s = (x, y) by unfold errOf; rw [HE.out])
    have hk := HK.out.alloc (.cells #[.int .i64 x, .int .i64 y] 93)
    have hn := Blk.new w1 93 #[.int .i64 x, .int .i64 y]
    have HB2 := Lib.hid (show Below w.heap.size w (w1.alloc (.cells #[.int .i64 x, .int .i64 y] 93)) from (HBA.out.trans (HB1.out.mono (by simp))).alloc (by have := HB1.out.size; simp at this; omega) _)
    generalize w1.alloc (.cells #[.int .i64 x, .int .i64 y] 93) = w2 at *
    obtain ⟨b0, b1, b2, b3, b4, b5⟩ := hk.two (.int .i64 x)
    have k0 : w2.cell? ⟨w1.heap.size, 0, none⟩ = some (.int .i64 x) := hn.cell 0
    have k1 : w2.cell? ⟨w1.heap.size, 1, none⟩ = some (.int .i64 y) := hn.cell 1
    have HK2 := Lib.hid (hk.two_set (.int .i64 x) (.int .i64 y))
    clear hk hn HK
    go_wp2
    refine bodyPost_ret (check_result HK2.out rfl) rfl ⟨by rw [HX.out], (HB2.out.setCell (by simp) _).setCell (by simp) _⟩
  · have HX := Lib.hid (show errOf s = (0, 0) by unfold errOf; rw [HE.out])
    have hk := HK.out.alloc (.cells #[.int .i64 0, .int .i64 0] 93)
    have hn := Blk.new w1 93 #[.int .i64 0, .int .i64 0]
    have HB2 := Lib.hid (show Below w.heap.size w (w1.alloc (.cells #[.int .i64 0, .int .i64 0] 93)) from (HBA.out.trans (HB1.out.mono (by simp))).alloc (by have := HB1.out.size; simp at this; omega) _)
    generalize w1.alloc (.cells #[.int .i64 0, .int .i64 0] 93) = w2 at *
    obtain ⟨b0, b1, b2, b3, b4, b5⟩ := hk.two (.int .i64 0)
    have k0 : w2.cell? ⟨w1.heap.size, 0, none⟩ = some (.int .i64 0) := hn.cell 0
    have k1 : w2.cell? ⟨w1.heap.size, 1, none⟩ = some (.int .i64 0) := hn.cell 1
    have HK2 := Lib.hid (hk.two_set (.int .i64 0) (.int .i64 0))
    clear hk hn HK
    go_wp2
    refine bodyPost_ret (check_result HK2.out rfl) rfl ⟨by rw [HX.out], (HB2.out.setCell (by simp) _).setCell (by simp) _⟩

theorem stepCells_take : ∀ (l : List PStep) (vs : List Value) (k : Nat), stepCells (l.take k) (vs.take k) = (stepCells l vs).take (k * 2)
  | _, _, 0 => by simp [stepCells]
  | [], [], k + 1 => by simp [stepCells]
  | [], _ :: _, k + 1 => by simp [stepCells]
  | _ :: _, [], k + 1 => by simp [stepCells]
  | st :: l, v :: vs, k + 1 => by
    rw [show (k + 1) * 2 = k * 2 + 2 by omega]
    simp [stepCells, stepCells_take l vs k]
theorem stepCells_drop : ∀ (l : List PStep) (vs : List Value) (k : Nat), stepCells (l.drop k) (vs.drop k) = (stepCells l vs).drop (k * 2)
  | _, _, 0 => by simp
  | [], [], k + 1 => by simp [stepCells]
  | [], _ :: _, k + 1 => by simp [stepCells]
  | _ :: _, [], k + 1 => by simp [stepCells]
  | st :: l, v :: vs, k + 1 => by
    rw [show (k + 1) * 2 = k * 2 + 2 by omega]
    simp [stepCells, stepCells_drop l vs k]
theorem StepsR.take {w : World} {A : Option Addr} {n c : Nat} {l : List PStep} {vs : List Value} (h : StepsR w (.slice A n c) l vs) {k : Nat} (hk : k ≤ l.length) : StepsR w (.slice A k c) (l.take k) (vs.take k) := by
  obtain ⟨A', c', e, h1, h2, h3, h4, h5⟩ := h
  cases e
  have hl : (l.take k).length = k := by rw [List.length_take]; omega
  refine ⟨A, c, by rw [hl], by omega, h2, ?_, by rw [List.length_take, List.length_take, h4], ?_⟩
  · rw [hl, stepCells_take]
    exact h3.take hk
  · intro i st kv hi hj
    rw [List.getElem?_take] at hi hj
    split at hi
    · rename_i hlt
      rw [if_pos hlt] at hj
      exact h5 i st kv hi hj
    · cases hi
theorem StepsR.drop {w : World} {A : Option Addr} {n c : Nat} {l : List PStep} {vs : List Value} (h : StepsR w (.slice A n c) l vs) {k : Nat} (hk : k ≤ l.length) :
    StepsR w (.slice (if c = k then A else Option.map (fun x => x.add (k * 2)) A) (n - k) (c - k)) (l.drop k) (vs.drop k) := by
  obtain ⟨A', c', e, h1, h2, h3, h4, h5⟩ := h
  cases e
  refine ⟨_, c - k, by rw [List.length_drop], by rw [List.length_drop]; omega, by omega, ?_, by rw [List.length_drop, List.length_drop, h4], ?_⟩
  · rw [stepCells_drop, List.length_drop]
    exact h3.drop hk h1
  · intro i st kv hi hj
    rw [List.getElem?_drop] at hi hj
    exact h5 _ st kv hi hj
theorem stepCells_mem : ∀ (l : List PStep) (vs : List Value) (u : Value), u ∈ stepCells l vs → (∃ s, u = .string s) ∨ (∃ (i : Nat) (st : PStep), l[i]? = some st ∧ vs[i]? = some u)
  | [], _, _, h => by simp [stepCells] at h
  | _ :: _, [], _, h => by simp [stepCells] at h
  | st :: l, v :: vs, u, h => by
    simp only [stepCells, List.mem_cons] at h
    rcases h with h | h | h
    · exact .inl ⟨_, h⟩
    · exact .inr ⟨0, st, rfl, by rw [h]; rfl⟩
    · rcases stepCells_mem l vs u h with h | ⟨i, st', h1, h2⟩
      · exact .inl h
      · exact .inr ⟨i + 1, st', by simpa using h1, by simpa using h2⟩
theorem stepCells_one {w : World} {v : Value} {l : List PStep} {vs : List Value} (h : StepsR w v l vs) : ∀ u ∈ stepCells l vs, u.oneCell' = true := by
  intro u hu
  obtain ⟨_, _, _, _, _, _, _, h5⟩ := h
  rcases stepCells_mem l vs u hu with ⟨s, rfl⟩ | ⟨i, st, h1, h2⟩
  · rfl
  · obtain ⟨A, c, rfl, _⟩ := h5 i st u h1 h2
    rfl
/-- The rest of l behind m. -/
def restM (a b : ByteArray) : Option ByteArray := match parseM a, parseM b with
  | .ok l, .ok m => if l.take m.length = m then some (putS (putM (l.drop m.length))) else none
  | _, _ => none
def restV (r : Option ByteArray) : Value := match r with
  | some t => .tuple #[.string t, .bool true]
  | none => .tuple #[.string ByteArray.empty, .bool false]
def RestPost (a b : ByteArray) (w : World) (en : Ending) (w' : World) : Prop := en = .returned (restV (restM a b)) ∧ Below w.heap.size w w'
def InPost (a b : ByteArray) (w : World) (en : Ending) (w' : World) : Prop := en = .returned (.bool (restM a b).isSome) ∧ Below w.heap.size w w'
end Go.Proofs.YtfpepdjffehbcaaGreat
/-
  The walk of path.Print; lying in one another, plainly. Condition: the steps are small.
-/
namespace Go.Proofs.YtfpepdjffehbcaaGreat
open Go.RowKit

/-- Lies a in b? -/
def inB (a b : ByteArray) : Bool := (restM a b).isSome
theorem inB_ok {a b : ByteArray} : inB a b = true ↔ ∃ l m, parseM a = .ok l ∧ parseM b = .ok m ∧ l.take m.length = m := by
  unfold inB restM
  cases ha : parseM a with
  | error e => simp
  | ok l =>
    cases hb : parseM b with
    | error e => simp
    | ok m => simp
theorem parse_empty : parseM ByteArray.empty = .ok [] := by kernel_rfl
def rightB (a : ByteArray) : Bool := (errOf a).1 == 0
theorem rightB_ok {a : ByteArray} : rightB a = true ↔ ∃ l, parseM a = .ok l := by
  unfold rightB errOf
  cases ha : parseM a with
  | ok l => simp
  | error e =>
    obtain ⟨x, y⟩ := e
    have := parseM_err ha
    simp
    omega
theorem bool_iff {a b : Bool} (h : a = true ↔ b = true) : a = b := by cases a <;> cases b <;> simp_all
theorem in_self (a : ByteArray) : inB a a = rightB a := bool_iff (by
  rw [inB_ok, rightB_ok]
  constructor
  · rintro ⟨l, m, h, -, -⟩; exact ⟨l, h⟩
  · rintro ⟨l, h⟩; exact ⟨l, l, h, h, by simp⟩)
theorem in_none (a : ByteArray) : inB a ByteArray.empty = rightB a := bool_iff (by
  rw [inB_ok, rightB_ok]
  constructor
  · rintro ⟨l, m, h, -, -⟩; exact ⟨l, h⟩
  · rintro ⟨l, h⟩; exact ⟨l, [], h, parse_empty, by simp⟩)
theorem in_trans {a b c : ByteArray} (h1 : inB a b = true) (h2 : inB b c = true) : inB a c = true := by
  rw [inB_ok] at *
  obtain ⟨l, m, ha, hb, h1⟩ := h1
  obtain ⟨m', n, hb', hc, h2⟩ := h2
  rw [hb] at hb'
  cases hb'
  refine ⟨l, n, ha, hc, ?_⟩
  have hle : n.length ≤ m.length := by
    have := congrArg List.length h2
    rw [List.length_take] at this
    omega
  have e : (l.take m.length).take n.length = l.take n.length := by rw [List.take_take, Nat.min_eq_left hle]
  rw [← e, h1]
  exact h2
theorem in_anti {a b : ByteArray} (h1 : inB a b = true) (h2 : inB b a = true) : a = b := by
  rw [inB_ok] at *
  obtain ⟨l, m, ha, hb, h1⟩ := h1
  obtain ⟨m', l', hb', ha', h2⟩ := h2
  rw [hb] at hb'
  cases hb'
  rw [ha] at ha'
  cases ha'
  have e1 : m.length ≤ l.length := by have := congrArg List.length h1; rw [List.length_take] at this; omega
  have e2 : l.length ≤ m.length := by have := congrArg List.length h2; rw [List.length_take] at this; omega
  have : l = m := by rw [List.take_of_length_le (by omega)] at h1; exact h1
  subst this
  exact parse_inj ha hb
theorem in_line {a b c : ByteArray} (h1 : inB a b = true) (h2 : inB a c = true) : inB b c = true ∨ inB c b = true := by
  rw [inB_ok] at h1 h2
  obtain ⟨l, m, ha, hb, h1⟩ := h1
  obtain ⟨l', n, ha', hc, h2⟩ := h2
  rw [ha] at ha'
  cases ha'
  rcases Nat.le_total n.length m.length with h | h
  · refine .inl (inB_ok.2 ⟨m, n, hb, hc, ?_⟩)
    rw [← h1, List.take_take, Nat.min_eq_left h]
    exact h2
  · refine .inr (inB_ok.2 ⟨n, m, hc, hb, ?_⟩)
    rw [← h2, List.take_take, Nat.min_eq_left h]
    exact h1
end Go.Proofs.YtfpepdjffehbcaaGreat
