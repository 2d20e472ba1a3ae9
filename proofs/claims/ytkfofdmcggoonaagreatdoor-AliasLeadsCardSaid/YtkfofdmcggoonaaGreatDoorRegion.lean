/-
  A region that draws its order, by an invariant: each operation's slot has a fact of its own, kept by whatever comes later; no program in sight. Plain lemmas; no condition.
-/
import Derived.Test.YtkfofdmcggoonaaGreatDoorBlocks
import Derived.RegionTactic
import Derived.Orders
set_option linter.unusedVariables false
set_option linter.unusedSimpArgs false
namespace Go.Proofs.YtkfofdmcggoonaaGreatDoor
open Go.RowKit

/-- The slots that the operations write. -/
def dstsOf (ops : Array Oper) : List Nat := ops.toList.filterMap (·.dst)
/-- The frame with the region's own slots taken from s. -/
def fillL (ds : List Nat) (s : Nat → Value) : Nat → List Value → List Value
  | _, [] => []
  | k, x :: xs => (if ds.contains k then s k else x) :: fillL ds s (k + 1) xs
def frameOf (ds : List Nat) (a : Act) (s : Nat → Value) : Act := { a with tmps := (fillL ds s 0 a.tmps.toList).toArray }

theorem fillL_len (ds : List Nat) (s : Nat → Value) : ∀ (l : List Value) (k : Nat), (fillL ds s k l).length = l.length
  | [], _ => rfl
  | _ :: l, k => by simp [fillL, fillL_len ds s l (k + 1)]
theorem fillL_get (ds : List Nat) (s : Nat → Value) : ∀ (l : List Value) (k j : Nat), (fillL ds s k l)[j]? = (l[j]?).map fun x => if ds.contains (k + j) then s (k + j) else x
  | [], _, _ => by simp [fillL]
  | x :: l, k, 0 => by simp [fillL]
  | x :: l, k, j + 1 => by
    simp only [fillL, List.getElem?_cons_succ, fillL_get ds s l (k + 1) j]
    rw [show k + 1 + j = k + (j + 1) by omega]
theorem fillL_congr (ds : List Nat) (s s' : Nat → Value) (h : ∀ d ∈ ds, s d = s' d) : ∀ (l : List Value) (k : Nat), fillL ds s k l = fillL ds s' k l
  | [], _ => rfl
  | x :: l, k => by
    simp only [fillL, fillL_congr ds s s' h l (k + 1)]
    by_cases hk : ds.contains k = true
    · simp only [hk, if_true]
      rw [h k (by simpa using hk)]
    · rw [if_neg hk, if_neg hk]
theorem fillL_id (ds : List Nat) : ∀ (l : List Value) (k : Nat), fillL ds (fun j => l.getD (j - k) undef) k l = l
  | [], _ => rfl
  | x :: l, k => by
    simp only [fillL]
    congr 1
    · simp
    · have := fillL_id ds l (k + 1)
      have e : ∀ (m : List Value) (q : Nat), k < q → fillL ds (fun j => (x :: l).getD (j - k) undef) q m = fillL ds (fun j => l.getD (j - (k + 1)) undef) q m := by
        intro m
        induction m with
        | nil => intro q _; rfl
        | cons y m ih =>
          intro q hq
          simp only [fillL]
          rw [ih (q + 1) (by omega), show q - k = (q - (k + 1)) + 1 by omega]
          rfl
      exact (e l (k + 1) (by omega)).trans this
theorem frame_get {ds : List Nat} {a : Act} {s : Nat → Value} {d : Nat} (h : d ∈ ds) (hd : d < a.tmps.size) : (frameOf ds a s).tmps.getD d undef = s d := by
  have := fillL_get ds s a.tmps.toList 0 d
  simp only [frameOf, Array.getD_eq_getD_getElem?, List.getElem?_toArray, this, Nat.zero_add]
  rw [List.getElem?_eq_getElem (by simpa using hd)]
  simp [h]
theorem frame_put {ds : List Nat} {a : Act} {s : Nat → Value} {d : Nat} (v : Value) (h : d ∈ ds) : (frameOf ds a s).put (some d) v = frameOf ds a (fun j => if j = d then v else s j) := by
  simp only [frameOf, Act.put]
  congr 1
  apply Array.ext'
  simp only [Array.toList_setIfInBounds]
  apply List.ext_getElem?
  intro j
  rw [List.getElem?_set, fillL_get, fillL_get, fillL_len]
  simp only [Nat.zero_add]
  by_cases hj : d = j
  · subst hj
    by_cases hlt : d < a.tmps.size
    · simp [hlt, h]
    · simp [hlt]
  · rw [if_neg hj]
    by_cases hc : ds.contains j = true
    · simp only [hc, if_true, if_neg (Ne.symm hj)]
    · congr 1
      funext x
      rw [if_neg hc, if_neg hc]

/-- What operation j looks at is written by an operation that it waits for, or by one that waits for it, or by none. -/
def waits (ops : Array Oper) (j i : Nat) : Bool := ((ops[j]?).map fun o => o.after.any fun e => Region.binds .any e && e.on == i).getD false
def lookB (ops : Array Oper) (j t : Nat) : Bool := (List.range ops.size).all fun i => ((ops[i]?).map fun o => o.dst != some t || waits ops j i).getD true
def laterB (ops : Array Oper) (j t : Nat) : Bool := (List.range ops.size).all fun i => ((ops[i]?).map fun o => o.dst != some t || waits ops i j).getD true
def nodupB : List Nat → Bool
  | [] => true
  | x :: l => !l.contains x && nodupB l
def backB (ops : Array Oper) : Bool := (List.range ops.size).all fun j => ((ops[j]?).map fun o => o.after.all fun e => !Region.binds .any e || decide (e.on < j)).getD true
def invB (ops : Array Oper) : Bool := nodupB (dstsOf ops) && backB ops

theorem mem_dsts {ops : Array Oper} {i d : Nat} {o : Oper} (h : ops[i]? = some o) (hd : o.dst = some d) : d ∈ dstsOf ops := by
  unfold dstsOf
  rw [List.mem_filterMap]
  exact ⟨o, by
    have h2 : ops.toList[i]? = some o := by simpa using h
    exact List.mem_of_getElem? h2, hd⟩
theorem nodup_ne : ∀ (l : List Oper), nodupB (l.filterMap (·.dst)) = true → ∀ (i j : Nat) (o o' : Oper) (d : Nat), l[i]? = some o → l[j]? = some o' → o.dst = some d → o'.dst = some d → i = j
  | [], _, i, _, _, _, _, h, _, _, _ => by simp at h
  | x :: l, hn, 0, 0, _, _, _, _, _, _, _ => rfl
  | x :: l, hn, 0, j + 1, o, o', d, h, h', hd, hd' => by
    simp only [List.getElem?_cons_zero, Option.some.injEq] at h
    subst h
    simp only [List.filterMap_cons, hd, nodupB, Bool.and_eq_true, Bool.not_eq_true', List.contains_eq_mem, decide_eq_false_iff_not] at hn
    exact absurd (List.mem_filterMap.2 ⟨o', List.mem_of_getElem? (by simpa using h'), hd'⟩) hn.1
  | x :: l, hn, i + 1, 0, o, o', d, h, h', hd, hd' => by
    simp only [List.getElem?_cons_zero, Option.some.injEq] at h'
    subst h'
    simp only [List.filterMap_cons, hd', nodupB, Bool.and_eq_true, Bool.not_eq_true', List.contains_eq_mem, decide_eq_false_iff_not] at hn
    exact absurd (List.mem_filterMap.2 ⟨o, List.mem_of_getElem? (by simpa using h), hd⟩) hn.1
  | x :: l, hn, i + 1, j + 1, o, o', d, h, h', hd, hd' => by
    have hn' : nodupB (l.filterMap (·.dst)) = true := by
      cases hx : x.dst with
      | none => simpa [List.filterMap_cons, hx] using hn
      | some y => simp only [List.filterMap_cons, hx, nodupB, Bool.and_eq_true] at hn; exact hn.2
    rw [nodup_ne l hn' i j o o' d (by simpa using h) (by simpa using h') hd hd']

section
variable {P : Program} {ops : Array Oper} {Q : Exit → Act → World → Prop} {a0 : Act} {w0 : World} {E : World → World → Prop} {F : Nat → Value → World → Prop}

/-- What operation j owes. -/
def Owes (P : Program) (ops : Array Oper) (Q : Exit → Act → World → Prop) (a0 : Act) (w0 : World) (E : World → World → Prop) (F : Nat → Value → World → Prop) (j : Nat) (o : Oper) : Prop :=
  ∀ (s : Nat → Value) (w : World), E w0 w → (∀ t, t ∈ dstsOf ops → lookB ops j t = true → F t (s t) w) → (∀ t, laterB ops j t = true → t ∈ dstsOf ops → s t = a0.tmps.getD t undef) →
    ∀ K : Act → World → Prop, (∀ v w', E w w' → (∀ d, o.dst = some d → F d v w') → K ((frameOf (dstsOf ops) a0 s).put o.dst v) w') →
      if Region.wanted o (yielded ops (frameOf (dstsOf ops) a0 s).tmps) = true then Oper.wp P o (frameOf (dstsOf ops) a0 s) w K Q else K ((frameOf (dstsOf ops) a0 s).put o.dst undef) w

/-- Which slots hold what. -/
def Inv (ops : Array Oper) (a0 : Act) (w0 : World) (E : World → World → Prop) (F : Nat → Value → World → Prop) (listed : Array Bool) (a : Act) (w : World) : Prop :=
  (∀ i j, listed.getD i true = true → i < ops.size → waits ops i j = true → listed.getD j true = true) ∧
  ∃ s, a = frameOf (dstsOf ops) a0 s ∧ E w0 w ∧ ∀ (i : Nat) (o : Oper) (d : Nat), ops[i]? = some o → o.dst = some d → (listed.getD i true = true → F d (s d) w) ∧ (listed.getD i true = false → s d = a0.tmps.getD d undef)

theorem lt_of_some {i : Nat} {o : Oper} (h : ops[i]? = some o) : i < ops.size := by
  rcases Nat.lt_or_ge i ops.size with h' | h'
  · exact h'
  · rw [Array.getElem?_eq_none h'] at h; cases h
theorem dst_writer {d : Nat} (h : d ∈ dstsOf ops) : ∃ (i : Nat) (o : Oper), ops[i]? = some o ∧ o.dst = some d := by
  obtain ⟨o, ho, hd⟩ := List.mem_filterMap.1 h
  obtain ⟨i, hi⟩ := List.mem_iff_getElem?.1 ho
  exact ⟨i, o, by simpa using hi, hd⟩
theorem getD_bool {l : Array Bool} {i : Nat} (h : i < l.size) (x y : Bool) : l.getD i x = l.getD i y := by simp [h]
theorem all_listed (hb : backB ops = true) {listed : Array Bool} (hsz : listed.size = ops.size) (hr : Region.ready .any ops listed = []) : ∀ i, i < ops.size → listed.getD i true = true := by
  intro i
  induction i using Nat.strongRecOn with
  | ind i ih =>
    intro hi
    cases hl : listed.getD i true with
    | true => rfl
    | false =>
      exfalso
      have hmem : i ∈ Region.ready .any ops listed := by
        rw [mem_ready]
        refine ⟨hl, ops[i], Array.getElem?_eq_getElem hi, fun e he hbd => ?_⟩
        have h1 := List.all_eq_true.1 hb i (by simpa using hi)
        simp only [Array.getElem?_eq_getElem hi, Option.map_some, Option.getD_some, Array.all_eq_true_iff_forall_mem, Bool.or_eq_true, Bool.not_eq_true', decide_eq_true_eq] at h1
        have h2 : e.on < i := by
          rcases h1 e he with h | h
          · rw [hbd] at h; cases h
          · exact h
        have h3 := ih e.on h2 (by omega)
        rw [getD_bool (by omega) false true]
        exact h3
      rw [hr] at hmem
      cases hmem

theorem inv_any (hEt : ∀ a b c, E a b → E b c → E a c) (hF : ∀ t v w w', F t v w → E w w' → F t v w')
    (hB : invB ops = true) (hop : ∀ j o, ops[j]? = some o → Owes P ops Q a0 w0 E F j o)
    (hQ : ∀ s w, E w0 w → (∀ d ∈ dstsOf ops, F d (s d) w) → Q .normal (frameOf (dstsOf ops) a0 s) w) :
    ∀ (fuel : Nat) (listed : Array Bool) (a : Act) (w : World), listed.size = ops.size → ((List.range ops.size).filter fun i => !listed.getD i true).length ≤ fuel →
      Inv ops a0 w0 E F listed a w → wpAny P .any ops Q fuel listed a w := by
  simp only [invB, Bool.and_eq_true] at hB
  have hend : ∀ (listed : Array Bool) (a : Act) (w : World), (∀ i, i < ops.size → listed.getD i true = true) → Inv ops a0 w0 E F listed a w → Q .normal a w := by
    rintro listed a w hall ⟨_, s, rfl, hE, hs⟩
    refine hQ s w hE (fun d hd => ?_)
    obtain ⟨i, o, hi, hd'⟩ := dst_writer hd
    exact (hs i o d hi hd').1 (hall i (lt_of_some hi))
  intro fuel
  induction fuel with
  | zero =>
    intro listed a w hsz hn hI
    have hall : ∀ i, i < ops.size → listed.getD i true = true := by
      intro i hi
      have h0 : ((List.range ops.size).filter fun i => !listed.getD i true) = [] := List.eq_nil_of_length_eq_zero (by omega)
      have := List.filter_eq_nil_iff.1 h0 i (by simpa using hi)
      simpa using this
    refine ⟨?_, hend listed a w hall hI⟩
    unfold Region.ready
    rw [List.filter_eq_nil_iff]
    intro i hi
    have := hall i (by simpa using hi)
    simp [this]
  | succ fuel ih =>
    intro listed a w hsz hn hI
    refine ⟨fun h0 => hend listed a w (all_listed hB.2 hsz h0) hI, fun j hj => ?_⟩
    obtain ⟨hjun, oj, hoj, hall⟩ := mem_ready.1 hj
    obtain ⟨hcl, s, rfl, hE, hs⟩ := hI
    have hjlt := lt_of_some hoj
    have hsz' : (listed.setIfInBounds j true).size = ops.size := by simpa using hsz
    have hset : ∀ i, i < ops.size → (listed.setIfInBounds j true).getD i true = (if j = i then true else listed.getD i true) := by
      intro i hi
      by_cases hij : j = i
      · subst hij
        have hl : j < listed.size := by omega
        simp [hl]
      · rw [getD_set_ne true hij, if_neg hij]
    have hcount : ((List.range ops.size).filter fun i => !(listed.setIfInBounds j true).getD i true).length ≤ fuel := by
      have hlt : ((List.range ops.size).filter fun i => !(listed.setIfInBounds j true).getD i true).length < ((List.range ops.size).filter fun i => !listed.getD i true).length := by
        have hsub : ((List.range ops.size).filter fun i => !(listed.setIfInBounds j true).getD i true) = (((List.range ops.size).filter fun i => !listed.getD i true).filter fun i => i != j) := by
          rw [List.filter_filter]
          apply List.filter_congr
          intro i hi
          rw [hset i (by simpa using hi)]
          by_cases hij : j = i
          · subst hij
            simp
          · simp [hij, Ne.symm hij]
        rw [hsub]
        apply List.length_filter_lt_length_iff_exists.2
        exact ⟨j, by simp only [List.mem_filter, List.mem_range]; exact ⟨hjlt, by rw [hjun]; rfl⟩, by simp⟩
      omega
    have hwait : ∀ i, waits ops j i = true → listed.getD i true = true := by
      intro i h1
      simp only [waits, hoj, Option.map_some, Option.getD_some, Array.any_eq_true] at h1
      obtain ⟨q, hq, he⟩ := h1
      simp only [Bool.and_eq_true, beq_iff_eq] at he
      have h2 := hall _ (Array.getElem_mem hq) he.1
      rw [he.2] at h2
      rcases Nat.lt_or_ge i listed.size with h' | h'
      · rw [getD_bool h' true false]; exact h2
      · simp [h']
    have hlater : ∀ t, laterB ops j t = true → t ∈ dstsOf ops → s t = a0.tmps.getD t undef := by
      intro t hb ht
      obtain ⟨i, o, hi', hd'⟩ := dst_writer ht
      have h1 := List.all_eq_true.1 hb i (by simpa using lt_of_some hi')
      simp only [hi', Option.map_some, Option.getD_some, hd', bne_self_eq_false, Bool.false_or] at h1
      refine (hs i o t hi' hd').2 ?_
      cases hl : listed.getD i true with
      | false => rfl
      | true =>
        have := hcl i j hl (lt_of_some hi') h1
        rw [hjun] at this
        cases this
    have hself : ∀ d, oj.dst = some d → s d = a0.tmps.getD d undef := fun d hd => (hs j oj d hoj hd).2 hjun
    refine wpOp_step hoj (fun K hK => hop j oj hoj s w hE (fun t ht hb => ?_) hlater K (fun v w' hEw hv => hK _ _ (ih _ _ _ hsz' hcount ?_)))
    · obtain ⟨i, o, hi', hd'⟩ := dst_writer ht
      have h1 := List.all_eq_true.1 hb i (by simpa using lt_of_some hi')
      simp only [hi', Option.map_some, Option.getD_some, hd', bne_self_eq_false, Bool.false_or] at h1
      exact (hs i o t hi' hd').1 (hwait i h1)
    · refine ⟨fun i k hi hilt hw => ?_, ?_⟩
      · have hk : listed.getD k true = true := by
          by_cases hij : j = i
          · subst hij; exact hwait k hw
          · rw [hset i hilt, if_neg hij] at hi
            exact hcl i k hi hilt hw
        rcases Nat.lt_or_ge k ops.size with h' | h'
        · rw [hset k h']
          split
          · rfl
          · exact hk
        · simp [hsz, h']
      · cases hd : oj.dst with
        | none =>
          refine ⟨s, rfl, hEt _ _ _ hE hEw, fun i o d hi hdo => ?_⟩
          rw [hset i (lt_of_some hi)]
          have hij : j ≠ i := by
            rintro rfl
            rw [hoj] at hi
            injection hi with hi
            subst hi
            rw [hd] at hdo
            cases hdo
          rw [if_neg hij]
          exact ⟨fun h => hF _ _ _ _ ((hs i o d hi hdo).1 h) hEw, (hs i o d hi hdo).2⟩
        | some dj =>
          rw [frame_put v (mem_dsts hoj hd)]
          refine ⟨_, rfl, hEt _ _ _ hE hEw, fun i o d hi hdo => ?_⟩
          rw [hset i (lt_of_some hi)]
          by_cases hij : j = i
          · subst hij
            rw [hoj] at hi
            injection hi with hi
            subst hi
            rw [hd] at hdo
            injection hdo with hdo
            subst hdo
            simp only [if_true]
            exact ⟨fun _ => hv _ hd, fun h => by cases h⟩
          · have hne : d ≠ dj := by
              rintro rfl
              exact hij (nodup_ne ops.toList hB.1 j i oj o d (by simpa using hoj) (by simpa using hi) hd hdo)
            rw [if_neg hij, if_neg hne]
            exact ⟨fun h => hF _ _ _ _ ((hs i o d hi hdo).1 h) hEw, (hs i o d hi hdo).2⟩

/-- A REGION THAT DRAWS ITS ORDER, BY ITS INVARIANT. -/
theorem wp_region_inv {id : Nat} (hm : P.follows .mixedOrders = true) (F : Nat → Value → World → Prop) (E : World → World → Prop) (hE0 : E w0 w0.drew) (hEt : ∀ a b c, E a b → E b c → E a c) (hF : ∀ t v w w', F t v w → E w w' → F t v w')
    (hB : invB ops = true) (hop : ∀ j o, ops[j]? = some o → Owes P ops Q a0 w0 E F j o)
    (hQ : ∀ s w, E w0 w → (∀ d ∈ dstsOf ops, F d (s d) w) → Q .normal (frameOf (dstsOf ops) a0 s) w) : (Code.region id ops true).wp P Q a0 w0 := by
  refine wp_region_any hm (inv_any (a0 := a0) (w0 := w0) hEt hF hB hop hQ _ _ _ _ (by simp) ?_ ⟨fun i j hi hilt _ => ?_, fun j => a0.tmps.getD j undef, ?_, hE0, fun i o d hi hd => ⟨fun h => ?_, fun _ => rfl⟩⟩)
  · refine Nat.le_trans (List.length_filter_le _ _) (by simp)
  · simp [hilt] at hi
  · have h := fillL_id (dstsOf ops) a0.tmps.toList 0
    have e : (fun j => a0.tmps.toList.getD (j - 0) undef) = fun j => a0.tmps.getD j undef := by
      funext j
      simp [Array.getD_eq_getD_getElem?, List.getD_eq_getElem?_getD]
    rw [e] at h
    unfold frameOf
    rw [h]
  · simp [lt_of_some hi] at h
end

/-- A fact on a slot's value that later worlds keep. -/
structure Fact where
  pred : Value → World → Prop
  mono : ∀ v w w', pred v w → Below w.heap.size w w' → pred v w'
def Fact.any : Fact := ⟨fun _ _ => True, fun _ _ _ _ _ => trivial⟩
def Fact.is (c : Value) : Fact := ⟨fun v _ => v = c, fun _ _ _ h _ => h⟩
/-- A row of the call's own that holds these bytes. -/
def Fact.bytes (base : Nat) (e : TypeId) (l : List UInt8) : Fact := ⟨fun v w => OB w base e v l, fun _ _ _ h hb => own_more h hb⟩
def factAt : List (Nat × Fact) → Nat → Fact
  | [], _ => Fact.any
  | (k, m) :: l, t => if t == k then m else factAt l t

def maskOf (ds : List Nat) (n : Nat) : List Bool := (List.range n).map ds.contains
def fillM : List Bool → (Nat → Value) → Nat → List Value → List Value
  | true :: m, s, k, _ :: xs => s k :: fillM m s (k + 1) xs
  | false :: m, s, k, x :: xs => x :: fillM m s (k + 1) xs
  | _, _, _, _ => []
theorem fillM_eq (ds : List Nat) (s : Nat → Value) : ∀ (l : List Value) (k : Nat), fillM ((List.range' k l.length).map ds.contains) s k l = fillL ds s k l
  | [], k => by simp [fillM, fillL]
  | x :: l, k => by
    rw [List.length_cons, List.range'_succ, List.map_cons]
    simp only [fillL]
    rw [← fillM_eq ds s l (k + 1)]
    cases hk : ds.contains k with
    | true => simp only [fillM, if_true]
    | false => simp [fillM]
def frameM (m : List Bool) (l : List Value) (d : List Deferred) (s : Nat → Value) : Act := { tmps := (fillM m s 0 l).toArray, defers := d }
def seesB (ops : Array Oper) (j t : Nat) : Bool := (dstsOf ops).contains t && lookB ops j t
def agesB (ops : Array Oper) (j t : Nat) : Bool := (dstsOf ops).contains t && laterB ops j t
def Met (L : List (Nat × Fact)) (dst : Option Tmp) (v : Value) (w : World) : Prop := match dst with | some d => (factAt L d).pred v w | none => True

/-- What operation j owes, the frame written out. -/
def Owe (P : Program) (ops : Array Oper) (Q : Exit → Act → World → Prop) (m : List Bool) (l : List Value) (d : List Deferred) (w0 : World) (L : List (Nat × Fact)) (j : Nat) (o : Oper) : Prop :=
  ∀ (s : Nat → Value) (w : World), Below w0.heap.size w0 w → (∀ t, seesB ops j t = true → (factAt L t).pred (s t) w) → (∀ t, agesB ops j t = true → s t = l.getD t undef) →
    ∀ K : Act → World → Prop, (∀ v w', Below w.heap.size w w' → Met L o.dst v w' → K ((frameM m l d s).put o.dst v) w') →
      if Region.wanted o (yielded ops (frameM m l d s).tmps) = true then Oper.wp P o (frameM m l d s) w K Q else K ((frameM m l d s).put o.dst undef) w
def OweAll (P : Program) (ops : Array Oper) (Q : Exit → Act → World → Prop) (m : List Bool) (l : List Value) (d : List Deferred) (w0 : World) (L : List (Nat × Fact)) : Nat → List Oper → Prop
  | _, [] => True
  | j, o :: r => Owe P ops Q m l d w0 L j o ∧ OweAll P ops Q m l d w0 L (j + 1) r
theorem owe_of_all {P : Program} {ops : Array Oper} {Q : Exit → Act → World → Prop} {m : List Bool} {l : List Value} {d : List Deferred} {w0 : World} {L : List (Nat × Fact)} :
    ∀ (r : List Oper) (k : Nat), OweAll P ops Q m l d w0 L k r → ∀ j o, r[j]? = some o → Owe P ops Q m l d w0 L (k + j) o
  | [], _, _, j, o, h => by simp at h
  | x :: r, k, hh, 0, o, h => by
    simp only [List.getElem?_cons_zero, Option.some.injEq] at h
    subst h
    exact hh.1
  | x :: r, k, hh, j + 1, o, h => by
    have := owe_of_all r (k + 1) hh.2 j o (by simpa using h)
    rwa [show k + 1 + j = k + (j + 1) by omega] at this

/-- A REGION THAT DRAWS ITS ORDER, written out: L gives each slot's fact. -/
theorem wp_region_facts {P : Program} {id : Nat} {r : List Oper} {Q : Exit → Act → World → Prop} {l : List Value} {d : List Deferred} {w0 : World} (hm : P.follows .mixedOrders = true) (L : List (Nat × Fact)) (m : List Bool)
    (hB : invB r.toArray = true) (hmask : maskOf (dstsOf r.toArray) l.length = m)
    (hop : OweAll P r.toArray Q m l d w0 L 0 r)
    (hQ : ∀ s w, Below w0.heap.size w0 w → (∀ t, (dstsOf r.toArray).contains t = true → (factAt L t).pred (s t) w) → Q .normal (frameM m l d s) w) :
    (Code.region id r.toArray true).wp P Q { tmps := l.toArray, defers := d } w0 := by
  have hfr : ∀ s, frameOf (dstsOf r.toArray) { tmps := l.toArray, defers := d } s = frameM m l d s := by
    intro s
    subst hmask
    unfold frameOf frameM maskOf
    simp only
    rw [List.range_eq_range', fillM_eq]
  refine wp_region_inv hm (fun t => (factAt L t).pred) (fun w w' => Below w.heap.size w w') ((Below.refl _ _).drew) (fun a b c h k => h.trans (k.mono h.size)) (fun t v w w' h hb => (factAt L t).mono v w w' h hb) hB ?_ ?_
  · intro j o hj s w hE hs hl K hK
    have := owe_of_all r 0 hop j o (by simpa using hj)
    rw [Nat.zero_add] at this
    rw [hfr s] at hK ⊢
    refine this s w hE (fun t ht => ?_) (fun t ht => ?_) K (fun v w' hb hm' => hK v w' hb (fun d' hd => ?_))
    · simp only [seesB, Bool.and_eq_true, List.contains_eq_mem, decide_eq_true_eq] at ht
      exact hs t ht.1 ht.2
    · simp only [agesB, Bool.and_eq_true, List.contains_eq_mem, decide_eq_true_eq] at ht
      have := hl t ht.2 ht.1
      simpa [Array.getD_eq_getD_getElem?, List.getD_eq_getElem?_getD] using this
    · unfold Met at hm'
      rw [hd] at hm'
      exact hm'
  · intro s w hE hs
    rw [hfr s]
    exact hQ s w hE (fun t ht => hs t (by simpa using ht))
end Go.Proofs.YtkfofdmcggoonaaGreatDoor
