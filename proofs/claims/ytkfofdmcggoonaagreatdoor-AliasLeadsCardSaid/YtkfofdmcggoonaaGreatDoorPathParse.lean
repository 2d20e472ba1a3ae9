/-
  What path.Parse computes, and how its steps lie in the heap; no program in sight. Plain Lean; no condition.
-/
import Derived.Test.YtkfofdmcggoonaaGreatDoorPathStep
import Derived.Test.YtkfofdmcggoonaaGreatDoorPathRd
import Derived.Lib.AppendZeros
set_option linter.unusedVariables false
set_option linter.unusedSimpArgs false
namespace Go.Proofs.YtkfofdmcggoonaaGreatDoor
open Go.RowKit

abbrev PStep := ByteArray × List PKey
def stepsF : Nat → ByteArray → Nat → List PStep → Except (Int × Int) (List PStep)
  | 0, _, p, _ => .error (3, (p : Int))
  | k + 1, s, p, l =>
    if l.length = 64 then .error (3, (p : Int)) else
      match stepM s p with
      | .error e => .error e
      | .ok (st, q) => if q = s.size then .ok (l ++ [st]) else if standsB s q 47 = true then stepsF k s (q + 1) (l ++ [st]) else .error (160, (q : Int))
def stepsM (s : ByteArray) (p : Nat) (l : List PStep) : Except (Int × Int) (List PStep) := stepsF (65 - l.length) s p l
def parseM (s : ByteArray) : Except (Int × Int) (List PStep) :=
  if s.size > 512 then .error (3, 512) else
    match broken s with
    | some k => .error (6, (k : Int))
    | none => if s.size = 0 then .ok [] else stepsM s 0 []
theorem steps_full {s : ByteArray} {p : Nat} {l : List PStep} (h : l.length = 64) : stepsM s p l = .error (3, (p : Int)) := by
  unfold stepsM
  rw [h]
  simp [stepsF, h]
section
variable {s : ByteArray} {p : Nat} {l : List PStep}
theorem steps_step (h : l.length < 64) : stepsM s p l = match stepM s p with
      | .error e => .error e
      | .ok (st, q) => if q = s.size then .ok (l ++ [st]) else if standsB s q 47 = true then stepsM s (q + 1) (l ++ [st]) else .error (160, (q : Int)) := by
  unfold stepsM
  rw [show 65 - l.length = (64 - l.length) + 1 by omega]
  simp only [stepsF]
  rw [if_neg (by omega)]
  cases stepM s p with
  | error e => rfl
  | ok x =>
    obtain ⟨st, q⟩ := x
    simp only [List.length_append, List.length_cons, List.length_nil]
    rw [show 65 - (l.length + (0 + 1)) = 64 - l.length by omega]
theorem steps_err {e : Int × Int} (h : l.length < 64) (hs : stepM s p = .error e) : stepsM s p l = .error e := by rw [steps_step h, hs]
theorem steps_end {st : PStep} (h : l.length < 64) (hs : stepM s p = .ok (st, s.size)) : stepsM s p l = .ok (l ++ [st]) := by
  rw [steps_step h, hs]
  simp
theorem steps_go {st : PStep} {q : Nat} (h : l.length < 64) (hs : stepM s p = .ok (st, q)) (hq : q ≠ s.size) (hb : standsB s q 47 = true) : stepsM s p l = stepsM s (q + 1) (l ++ [st]) := by
  rw [steps_step h, hs]
  simp [hq, hb]
theorem steps_no {st : PStep} {q : Nat} (h : l.length < 64) (hs : stepM s p = .ok (st, q)) (hq : q ≠ s.size) (hb : standsB s q 47 = false) : stepsM s p l = .error (160, (q : Int)) := by
  rw [steps_step h, hs]
  simp [hq, hb]
end
theorem keysF_ok (s : ByteArray) : ∀ (k p : Nat) (ks l : List PKey) (q : Nat), p ≤ s.size → keysF k s p ks = .ok (l, q) → p ≤ q ∧ q ≤ s.size := by
  intro k
  induction k with
  | zero => intro p ks l q hp h; simp [keysF] at h; omega
  | succ k ih =>
    intro p ks l q hp h
    simp only [keysF] at h
    split at h
    · rename_i hb
      have hl := stands_lt hb
      cases hn : nameM s (p + 1) with
      | error e => rw [hn] at h; cases h
      | ok x =>
        obtain ⟨key, q1⟩ := x
        have hq := nameM_ok hn (by omega)
        rw [hn] at h
        simp only at h
        split at h
        · split at h
          · cases hv : valAt s (q1 + 1) (q1 + 1) false [] with
            | error e => rw [hv] at h; cases h
            | ok y =>
              obtain ⟨v, r⟩ := y
              have hr := valAt_ok hv
              rw [hv] at h
              simp only at h
              have := ih r _ _ _ hr.2 h
              omega
          · cases h
        · cases h
    · simp at h
      omega
theorem stepM_ok {s : ByteArray} {p q : Nat} {st : PStep} (h : stepM s p = .ok (st, q)) (hp : p ≤ s.size) : p ≤ q ∧ q ≤ s.size := by
  unfold stepM at h
  cases hn : nameM s p with
  | error e => rw [hn] at h; cases h
  | ok x =>
    obtain ⟨nm, q1⟩ := x
    have hq := nameM_ok hn hp
    rw [hn] at h
    simp only at h
    cases hk : keysM s q1 [] with
    | error e => rw [hk] at h; cases h
    | ok y =>
      obtain ⟨ks, r⟩ := y
      rw [hk] at h
      simp at h
      have := keysF_ok s _ q1 [] ks r hq.2.1 hk
      omega

/-- The cells of a row of steps whose keys are the values vs. -/
def stepCells : List PStep → List Value → List Value
  | st :: l, v :: vs => .string st.1 :: v :: stepCells l vs
  | _, _ => []
theorem stepCells_len : ∀ (l : List PStep) (vs : List Value), vs.length = l.length → (stepCells l vs).length = l.length * 2
  | [], [], _ => rfl
  | st :: l, v :: vs, h => by
    have := stepCells_len l vs (by simpa using h)
    simp [stepCells, this]
    omega
  | [], _ :: _, h => by simp at h
  | _ :: _, [], h => by simp at h
theorem stepCells_append : ∀ (l : List PStep) (vs : List Value) (st : PStep) (v : Value), vs.length = l.length → stepCells (l ++ [st]) (vs ++ [v]) = stepCells l vs ++ [.string st.1, v]
  | [], [], _, _, _ => rfl
  | st0 :: l, v0 :: vs, st, v, h => by
    have := stepCells_append l vs st v (by simpa using h)
    simp [stepCells, this]
  | [], _ :: _, _, _, h => by simp at h
  | _ :: _, [], _, _, h => by simp at h
theorem stepCells_at : ∀ (l : List PStep) (vs : List Value) (i : Nat) (st : PStep) (v : Value), l[i]? = some st → vs[i]? = some v → (stepCells l vs)[i * 2]? = some (.string st.1) ∧ (stepCells l vs)[i * 2 + 1]? = some v
  | st0 :: l, v0 :: vs, 0, st, v, h1, h2 => by
    simp at h1 h2
    subst h1 h2
    simp [stepCells]
  | st0 :: l, v0 :: vs, i + 1, st, v, h1, h2 => by
    have := stepCells_at l vs i st v (by simpa using h1) (by simpa using h2)
    simp only [stepCells]
    rw [show (i + 1) * 2 = i * 2 + 2 by omega, show i * 2 + 2 + 1 = i * 2 + 1 + 2 by omega]
    simpa using this
  | [], _, _, _, _, h1, _ => by simp at h1
  | _ :: _, [], _, _, _, _, h2 => by simp at h2
/-- The rows of keys, rising. -/
def KeysOwn (w : World) (base : Nat) (l : List PStep) (vs : List Value) : Prop :=
  (∀ (i : Nat) (st : PStep) (kv : Value), l[i]? = some st → vs[i]? = some kv → w.ownsRow base 33 2 kv st.2.length (pairCells st.2)) ∧
  (∀ (i j a b : Nat) (kv kv' : Value), i < j → vs[i]? = some kv → vs[j]? = some kv' → kv.ownBlock = some a → kv'.ownBlock = some b → a < b)
def StepsIn (w : World) (base : Nat) (v : Value) (l : List PStep) (vs : List Value) : Prop :=
  vs.length = l.length ∧ w.ownsRow base 70 2 v l.length (stepCells l vs) ∧ KeysOwn w base l vs
def StepsOwn (w : World) (base : Nat) (v : Value) (l : List PStep) : Prop := ∃ vs, StepsIn w base v l vs
theorem stepsIn_nil (w : World) (base : Nat) : StepsIn w base (.slice none 0 0) [] [] :=
  ⟨rfl, World.ownsRow_nil _ _ _ _, ⟨fun i st kv h _ => by simp at h, fun i j a b kv kv' _ h => by simp at h⟩⟩
theorem KeysOwn.kept {w w' : World} {base : Nat} {l : List PStep} {vs : List Value} {row : Option Nat} (h : KeysOwn w base l vs) (_hlen : vs.length = l.length) (hg : w.grownBy w' row) (hne : ∀ (i : Nat) (kv : Value) (k : Nat), vs[i]? = some kv → kv.ownBlock = some k → row ≠ some k) : KeysOwn w' base l vs := by
  refine ⟨fun i st kv h1 h2 => (h.1 i st kv h1 h2).kept hg ?_, h.2⟩
  cases hk : kv.ownBlock with
  | none => exact .inl rfl
  | some k => exact .inr fun e => hne i kv k h2 hk e.symm
theorem StepsIn.step {w : World} {base : Nat} {v : Value} {l : List PStep} {vs : List Value} (h : StepsIn w base v l vs) {i : Nat} {kv : Value} (hi : vs[i]? = some kv) : ∃ st, l[i]? = some st := by
  have := (List.getElem?_eq_some_iff.1 hi).1
  have := h.1
  exact ⟨l[i]'(by omega), by simp [show i < l.length by omega]⟩
theorem StepsIn.lt {w : World} {base : Nat} {v : Value} {l : List PStep} {vs : List Value} (h : StepsIn w base v l vs) : ∀ (i : Nat) (kv : Value) (k : Nat), vs[i]? = some kv → kv.ownBlock = some k → base ≤ k ∧ k < w.heap.size := by
  intro i kv k hi hk
  obtain ⟨st, hst⟩ := h.step hi
  exact (h.2.2.1 i st kv hst hi).lt k hk
theorem StepsIn.only {g : Nat} {w w' : World} {base : Nat} {v : Value} {l : List PStep} {vs : List Value} (h : StepsIn w base v l vs) (hO : Only g w w') (hg : g < base) : StepsIn w' base v l vs := by
  have hlt := h.lt
  obtain ⟨h1, h2, h3⟩ := h
  refine ⟨h1, h2.kept hO ?_, h3.kept h1 hO ?_⟩
  · cases hv : v.ownBlock with
    | none => exact .inl rfl
    | some k =>
      have := (h2.lt k hv).1
      exact .inr (by simp; omega)
  · intro i kv k hi hk e
    have := (hlt i kv k hi hk).1
    simp at e
    omega
/-- Rows of other types are other rows. -/
theorem own_other {w : World} {base base' : Nat} {e e' : TypeId} {size size' : Nat} {v v' : Value} {n n' : Nat} {xs xs' : List Value} (h : w.ownsRow base e size v n xs) (h' : w.ownsRow base' e' size' v' n' xs') (hee : e ≠ e') : ∀ k, v.ownBlock = some k → v'.ownBlock ≠ some k := by
  intro k hk hk'
  rcases h.2 with ⟨rfl, _⟩ | ⟨g, cap, cur, rfl, _, hg, _⟩
  · simp [Value.ownBlock] at hk
  · rcases h'.2 with ⟨rfl, _⟩ | ⟨g', cap', cur', rfl, _, hg', _⟩
    · simp [Value.ownBlock] at hk'
    · simp [Value.ownBlock] at hk hk'
      subst hk hk'
      rw [hg] at hg'
      simp at hg'
      exact hee hg'.2
/-- One step more behind them. -/
theorem StepsIn.push {w w' : World} {base B : Nat} {v v' kv : Value} {l : List PStep} {vs : List Value} {st : PStep} (h : StepsIn w base v l vs) (hB : base ≤ B) (hl : ∀ (i : Nat) (kv' : Value) (k : Nat), vs[i]? = some kv' → kv'.ownBlock = some k → k < B)
    (hk : w.ownsRow B 33 2 kv st.2.length (pairCells st.2)) (hg : w.grownBy w' v.ownBlock)
    (hown : w'.ownsRow base 70 2 v' (l.length + 1) (stepCells l vs ++ [.string st.1, kv])) : StepsIn w' base v' (l ++ [st]) (vs ++ [kv]) := by
  have hst := fun (i : Nat) (kv' : Value) (hi : vs[i]? = some kv') => h.step hi
  obtain ⟨h1, h2, h3⟩ := h
  have hrow : ∀ (i : Nat) (kv' : Value) (k : Nat), vs[i]? = some kv' → kv'.ownBlock = some k → v.ownBlock ≠ some k := by
    intro i kv' k hi hkk
    obtain ⟨st', hst'⟩ := hst i kv' hi
    exact own_other (h3.1 i st' kv' hst' hi) h2 (by decide) k hkk
  have h3' := h3.kept h1 hg hrow
  have hk' : w'.ownsRow B 33 2 kv st.2.length (pairCells st.2) := hk.kept hg (by
    cases hkb : kv.ownBlock with
    | none => exact .inl rfl
    | some k => exact .inr fun e => own_other hk h2 (by decide) k hkb e.symm)
  refine ⟨by simp [h1], ?_, ?_, ?_⟩
  · rw [stepCells_append l vs st kv h1, List.length_append]
    exact hown
  · intro i st' kv' hi hi'
    rcases Nat.lt_or_ge i l.length with hlt' | hge
    · rw [List.getElem?_append_left hlt'] at hi
      rw [List.getElem?_append_left (by omega)] at hi'
      exact h3'.1 i st' kv' hi hi'
    · rw [List.getElem?_append_right hge] at hi
      rw [List.getElem?_append_right (by omega)] at hi'
      have hi0 : i - l.length = 0 := by
        have := (List.getElem?_eq_some_iff.1 hi).1
        simp at this
        omega
      rw [hi0] at hi
      rw [show i - vs.length = 0 by omega] at hi'
      simp at hi hi'
      subst hi hi'
      exact own_base hk' hB
  · intro i j a b kv1 kv2 hij hi hj ha hb
    rcases Nat.lt_or_ge j l.length with hlt' | hge
    · rw [List.getElem?_append_left (by omega)] at hi hj
      exact h3.2 i j a b kv1 kv2 hij hi hj ha hb
    · rw [List.getElem?_append_right (by omega)] at hj
      have hj0 : j - vs.length = 0 := by
        have := (List.getElem?_eq_some_iff.1 hj).1
        simp at this
        omega
      rw [List.getElem?_append_left (by omega)] at hi
      rw [hj0] at hj
      simp at hj
      subst hj
      have := hl i kv1 a hi ha
      have := (hk.lt b hb).1
      omega
end Go.Proofs.YtkfofdmcggoonaaGreatDoor
/-
  The walk of path.Parse. Condition: the string is within the reach.
-/
namespace Go.Proofs.YtkfofdmcggoonaaGreatDoor
open Go.RowKit

def ParsePost (s : ByteArray) (w : World) (en : Ending) (w' : World) : Prop := Below w.heap.size w w' ∧
  ((∃ x y, parseM s = .error (x, y) ∧ en = .returned (.tuple #[.slice none 0 0, spotV x y])) ∨ (∃ l v, parseM s = .ok l ∧ en = .returned (.tuple #[v, spotV 0 0]) ∧ StepsOwn w' w.heap.size v l))
theorem results_tmp_row {fn : Func} {P : Program} {p u : Tmp} {ty : TypeId} (h : fn.results = #[.tmp u, .cell p ty]) (tmps : Array Value) (w : World) (g : Nat) (t : TypeId) (cs : Array Value) (d : TypeDesc)
    (hp : tmps.getD p undef = .pointer (some ⟨g, 0, none⟩)) (hg : Blk w g t cs)
    (hu : P.underlying ty = some d) (hd : (match d with | .struct _ | .array _ _ => true | _ => false) = true) (hi : (P.info? ty).map (·.size) = some cs.size) {x : Value} (hx : tmps.getD u undef = x) :
    (results fn tmps).run P w = .ok (.tuple #[x, .agg cs]) w := by
  have hp' : tmps[p]?.getD undef = .pointer (some ⟨g, 0, none⟩) := by simpa using hp
  have hx' : tmps[u]?.getD undef = x := by simpa using hx
  simp [results, h, hp', hx', asAddr, run_loadVar_row w g t ty cs (0, 0) d hg hu hd hi, Result.andThen]
theorem spot_info : (Tryz.prog.info? 43).map (·.size) = some 2 := by kernel_rfl
theorem parse_result {tmps : Array Value} {w : World} {r0 : Nat} {x y : Int} {v : Value} (hB : Blk w r0 43 #[.int .i64 x, .int .i64 y]) (hp : tmps.getD 3 undef = .pointer (some ⟨r0, 0, none⟩)) (hu : tmps.getD 2 undef = v) :
    (results Tryz.f32 tmps).run Tryz.prog w = .ok (.tuple #[v, spotV x y]) w :=
  results_tmp_row Tryz.results32 tmps w r0 43 #[.int .i64 x, .int .i64 y] _ hp hB Tryz.underlying43 rfl spot_info hu
/-- A store of two cells: what it reads. -/
theorem Blk.two {w : World} {r : Nat} {t : TypeId} {a b : Value} (h : Blk w r t #[a, b]) (x : Value) :
    w.cell? ⟨r, 0, none⟩ = some a ∧ w.frozen? ⟨r, 0, none⟩ = false ∧ w.cell? ⟨r, 1, none⟩ = some b ∧ w.frozen? ⟨r, 1, none⟩ = false ∧
    (w.setCell ⟨r, 0, none⟩ x).cell? ⟨r, 1, none⟩ = some b ∧ (w.setCell ⟨r, 0, none⟩ x).frozen? ⟨r, 1, none⟩ = false :=
  ⟨h.cell 0, h.frozen 0, h.cell 1, h.frozen 1, (h.set_ 0 x).cell 1, (h.set_ 0 x).frozen 1⟩
theorem Blk.two_set {w : World} {r : Nat} {t : TypeId} {a b : Value} (h : Blk w r t #[a, b]) (x y : Value) : Blk ((w.setCell ⟨r, 0, none⟩ x).setCell ⟨r, 1, none⟩ y) r t #[x, y] := (h.set_ 0 x).set_ 1 y

theorem own_only {g : Nat} {w w' : World} {base : Nat} {e : TypeId} {size : Nat} {v : Value} {n : Nat} {xs : List Value} (h : w.ownsRow base e size v n xs) (hO : Only g w w') (hg : g < base) : w'.ownsRow base e size v n xs := h.kept hO (by
  cases hv : v.ownBlock with
  | none => exact .inl rfl
  | some k =>
    have := (h.lt k hv).1
    exact .inr (by simp; omega))
/-- Where Parse's loop is. -/
def ParseAt (g r0 : Nat) (s : ByteArray) (wA : World) (v : Value) (p : Nat) (l : List PStep) (vs : List Value) (wr : World) : Prop :=
  PR wr g s p 0 0 ∧ Blk wr r0 43 #[.int .i64 0, .int .i64 0] ∧ Only g wA wr ∧ StepsIn wr wA.heap.size v l vs ∧ p ≤ s.size ∧ l.length ≤ p ∧ l.length ≤ 64 ∧ parseM s = stepsM s p l
theorem StepsIn.base {w : World} {base base' : Nat} {v : Value} {l : List PStep} {vs : List Value} (h : StepsIn w base v l vs) (hb : base' ≤ base) : StepsIn w base' v l vs :=
  ⟨h.1, own_base h.2.1 hb, fun i st kv h1 h2 => own_base (h.2.2.1 i st kv h1 h2) hb, h.2.2.2⟩
theorem stepz_info : (Tryz.prog.info? 70).map (fun i => (i.zero, i.size, i.bytes)) = some (some (.agg #[.string ByteArray.empty, .slice none 0 0]), 2, 40) := by kernel_rfl
/-- The end of a reader that failed. -/
theorem parse_bad {g r0 : Nat} {s : ByteArray} {w wA W : World} {x y : Int} (hw : w.heap.size ≤ r0 ∧ r0 < g) (hO : Only g wA W) (hBL : Below w.heap.size w wA) (hgA : g < wA.heap.size) (hM : parseM s = .error (x, y)) :
    ParsePost s w (.returned (.tuple #[.slice none 0 0, spotV x y])) ((W.setCell ⟨r0, 0, none⟩ (.int .i64 x)).setCell ⟨r0, 1, none⟩ (.int .i64 y)).drew :=
  ⟨(((Below.only hBL hO (by omega) (by omega)).setCell (by simp; omega) _).setCell (by simp; omega) _).drew, .inl ⟨x, y, hM, rfl⟩⟩

set_option maxHeartbeats 4000000 in
theorem parse_any (s : ByteArray) (w : World) (hs : s.size ≤ 140737488355328) :
    Calls Tryz.prog 32 #[.string s] w (ParsePost s w) := by
  by_cases h512 : s.size > 512
  · have hq : (512 : Int) < (s.size : Int) := by omega
    have HM := Lib.hid (show parseM s = .error (3, 512) by unfold parseM; rw [if_pos h512])
    go_enter Tryz.func32, Tryz.ntmps32
    go_wp2
    exact bodyPost_ret (parse_result (Blk.new w _ _) rfl rfl) rfl ⟨(Below.refl _ _).alloc (Nat.le_refl _) _, .inl ⟨3, 512, HM.out, rfl⟩⟩
  · have hq : ¬ (512 : Int) < (s.size : Int) := by omega
    have HC := Lib.hid (fun W => check_any s W hs)
    cases hbr : broken s with
    | some k =>
      rw [show checkV s = .agg #[.int .i64 6, .int .i64 k] by unfold checkV; rw [hbr]; rfl] at HC
      have HM := Lib.hid (show parseM s = .error (6, (k : Int)) by unfold parseM; rw [if_neg h512, hbr])
      clear hbr
      go_enter Tryz.func32, Tryz.ntmps32
      go_upto_region 5 with (go_at_call 57; refine (HC.out _).mono ?_; rintro en w1 ⟨rfl, hO1⟩; have hB1 := (Blk.new w 43 #[.int .i64 0, .int .i64 0]).below hO1 (by simp); have HBL := Lib.hid (((Below.refl _ w).alloc (Nat.le_refl _) _).trans (hO1.mono (by simp))); have HSZ := Lib.hid hO1.size; obtain ⟨b0, b1, b2, b3, b4, b5⟩ := (hB1.alloc (.cells #[.int .i64 6, .int .i64 k] 43)).two (.int .i64 6); have HB1 := Lib.hid hB1; clear hB1 hO1)
      go_region_with (fail)
      all_goals
        go_wp2
        exact bodyPost_ret (parse_result (((HB1.out.alloc _).two_set _ _).drewN 1) rfl rfl) rfl ⟨(((HBL.out.alloc (by have := HSZ.out; simp at this; omega) _).setCell (by simp) _).setCell (by simp) _).drew, .inl ⟨6, k, HM.out, rfl⟩⟩
    | none =>
      rw [show checkV s = .agg #[.int .i64 0, .int .i64 0] by unfold checkV; rw [hbr]; rfl] at HC
      by_cases h0 : s.size = 0
      · obtain rfl : s = ByteArray.empty := ByteArray.ext (Array.eq_empty_of_size_eq_zero h0)
        have HM := Lib.hid (show parseM ByteArray.empty = .ok [] by unfold parseM; rw [if_neg h512, hbr]; rfl)
        clear hbr
        go_enter Tryz.func32, Tryz.ntmps32
        go_upto_region 5 with (go_at_call 57; refine (HC.out _).mono ?_; rintro en w1 ⟨rfl, hO1⟩; have hB1 := (Blk.new w 43 #[.int .i64 0, .int .i64 0]).below hO1 (by simp); have HBL := Lib.hid (((Below.refl _ w).alloc (Nat.le_refl _) _).trans (hO1.mono (by simp))); have HSZ := Lib.hid hO1.size; obtain ⟨b0, b1, b2, b3, b4, b5⟩ := (hB1.alloc (.cells #[.int .i64 0, .int .i64 0] 43)).two (.int .i64 0); have HB1 := Lib.hid hB1; clear hB1 hO1)
        go_region_with (fail)
        all_goals
          go_wp2
          exact bodyPost_ret (parse_result (((HB1.out.alloc _).two_set _ _).drewN 1) rfl rfl) rfl ⟨(((HBL.out.alloc (by have := HSZ.out; simp at this; omega) _).setCell (by simp) _).setCell (by simp) _).drew, .inr ⟨[], _, HM.out, rfl, [], stepsIn_nil _ _⟩⟩
      · have hne : s.toList.isEmpty = false := by
          rw [Lib.toList_data]
          cases hd : s.data.toList with
          | nil => exact absurd (by rw [← ba_len, hd]; rfl) h0
          | cons _ _ => rfl
        have HM := Lib.hid (show parseM s = stepsM s 0 [] by unfold parseM; rw [if_neg h512, hbr]; simp only; rw [if_neg h0])
        have HS := Lib.hid (show 0 < s.size ∧ s.size ≤ 512 by omega)
        clear hbr h0
        go_enter Tryz.func32, Tryz.ntmps32
        go_wp2_with (go_at_call 57; refine (HC.out _).mono ?_; rintro en w1 ⟨rfl, hO1⟩; have hB1 := (Blk.new w 43 #[.int .i64 0, .int .i64 0]).below hO1 (by simp); have HBL := Lib.hid (((Below.refl _ w).alloc (Nat.le_refl _) _).trans (hO1.mono (by simp))); have HSZ := Lib.hid hO1.size; have HB1 := Lib.hid hB1; clear hB1 hO1 HC)
        have HR := Lib.hid (show PR ((w1.alloc (.cells #[.int .i64 0, .int .i64 0] 43)).alloc (.cells #[.string s, .int .i64 0, .int .i64 0, .int .i64 0] 98)) (w1.heap.size + 1) s 0 0 0 from by
          have := Blk.new (w1.alloc (.cells #[.int .i64 0, .int .i64 0] 43)) 98 #[.string s, .int .i64 0, .int .i64 0, .int .i64 0]
          simpa [PR] using this)
        have HB := Lib.hid ((HB1.out.alloc (.cells #[.int .i64 0, .int .i64 0] 43)).alloc (.cells #[.string s, .int .i64 0, .int .i64 0, .int .i64 0] 98))
        have HG := Lib.hid (show w.heap.size < w1.heap.size + 1 ∧ w1.heap.size + 1 < ((w1.alloc (.cells #[.int .i64 0, .int .i64 0] 43)).alloc (.cells #[.string s, .int .i64 0, .int .i64 0, .int .i64 0] 98)).heap.size by
          have := HSZ.out
          simp at this ⊢
          omega)
        have HBA := Lib.hid ((HBL.out.alloc (by have := HSZ.out; simp at this; omega) (.cells #[.int .i64 0, .int .i64 0] 43)).alloc (by have := HSZ.out; simp at this ⊢; omega) (.cells #[.string s, .int .i64 0, .int .i64 0, .int .i64 0] 98))
        clear HBL HSZ HB1
        generalize ((w1.alloc (.cells #[.int .i64 0, .int .i64 0] 43)).alloc (.cells #[.string s, .int .i64 0, .int .i64 0, .int .i64 0] 98)) = wA at *
        generalize w1.heap.size + 1 = g at *
        go_loopw [2, 6, 7, 8] (fun _ v _ _ wr => ∃ p l vs, ParseAt g w.heap.size s wA v p l vs wr) (fun _ _ _ _ wr => s.size + 2 - atOf g wr)
        case atStart => exact ⟨0, [], [], HR.out, HB.out, Only.refl g wA, stepsIn_nil _ _, Nat.zero_le _, Nat.zero_le _, by simp, HM.out⟩
        case round =>
          obtain ⟨p, l, vs, hR, hB, hO, hI, hp, hlp, hl64, hM⟩ := hrel
          obtain ⟨A, c, rfl, -, -, -⟩ := own_form hI.2.1
          clear HM HR HB
          have HM := Lib.hid hM
          have HI := Lib.hid hI
          have HO := Lib.hid hO
          have HB := Lib.hid hB
          have HR := Lib.hid hR
          have HP := Lib.hid (show p ≤ s.size ∧ l.length ≤ p ∧ l.length ≤ 64 from ⟨hp, hlp, hl64⟩)
          clear hM hI hO hp hlp hB hq
          by_cases h64 : l.length = 64
          · have HE := Lib.hid (show parseM s = .error (3, (p : Int)) by rw [HM.out]; exact steps_full h64)
            have h64' : ((l.length : Int) == 64) = true := by simp [h64]
            have k1 := hR.c1
            clear h64 hR hl64
            go_upto_region 10 with (go_at_call 58; go_loud (refine (fail_any g p s 0 0 3 p _ HR.out).mono ?_; rintro en w2 ⟨rfl, hR2, hO2⟩; have k2 := hR2.c2; have k3 := hR2.c3; have HB2 := Lib.hid (show Blk w2 _ _ _ from (hO2.block _ HB.out.lt (by have := HG.out; simp; omega)).trans HB.out); obtain ⟨b0, b1, b2, b3, b4, b5⟩ := HB2.out.two (.int .i64 3); have HO2 := Lib.hid (HO.out.trans hO2); clear hR2 hO2))
            go_region_with (fail)
            all_goals
              go_wp2
              change bodyPost Tryz.prog Tryz.f32 (ParsePost s w) Exit.ret _ _
              exact bodyPost_ret (parse_result ((HB2.out.two_set _ _).drewN 1) rfl rfl) rfl (parse_bad ⟨Nat.le_refl _, HG.out.1⟩ HO2.out HBA.out HG.out.2 HE.out)
          · have hl : l.length < 64 := by omega
            have h64' : ((l.length : Int) == 64) = false := by rw [beq_eq_false_iff_ne]; omega
            have HL := Lib.hid hl
            have HSI := Lib.hid (show s.size ≤ 100000 by have := HS.out; omega)
            clear h64 hl64 hl hR
            go_upto_region 12 with (go_at_call 59; go_loud (refine (step_any g p s 0 0 wr HR.out HP.out.1 HSI.out).mono ?_; rintro en w2 (⟨x, y, nm, A1, n1, c1, p1, hE, rfl, hR2, hO2⟩ | ⟨nm, ks, kv, q, hE, rfl, hK2, hR2, hO2⟩); rotate_left; obtain ⟨A1, c1, rfl, -, -, -⟩ := own_form hK2; rotate_right))
            · have HE := Lib.hid (show parseM s = .error (x, y) by rw [HM.out]; exact steps_err HL.out hE)
              have HO3 := Lib.hid (HO.out.trans (hO2.alloc (.cells #[.string nm, .slice A1 n1 c1] 70)))
              have HB3 := Lib.hid (show Blk (w2.alloc (.cells #[.string nm, .slice A1 n1 c1] 70)) _ _ _ from Blk.alloc ((hO2.block _ HB.out.lt (by have := HG.out; simp; omega)).trans HB.out) _)
              have hR3 : PR _ g s p1 x y := hR2.alloc (.cells #[.string nm, .slice A1 n1 c1] 70)
              have k2 := hR3.c2
              have k3 := hR3.c3
              clear hR2 hO2 hE hR3
              generalize w2.alloc (.cells #[.string nm, .slice A1 n1 c1] 70) = w3 at *
              obtain ⟨b0, b1, b2, b3, b4, b5⟩ := HB3.out.two (.int .i64 x)
              go_upto_region 13 with (fail)
              go_region_with (fail)
              all_goals
                go_wp2
                change bodyPost Tryz.prog Tryz.f32 (ParsePost s w) Exit.ret _ _
                exact bodyPost_ret (parse_result ((HB3.out.two_set _ _).drewN 1) rfl rfl) rfl (parse_bad ⟨Nat.le_refl _, HG.out.1⟩ HO3.out HBA.out HG.out.2 HE.out)
            · have HE := Lib.hid hE
              have HQ := Lib.hid (stepM_ok hE HP.out.1)
              have HW := Lib.hid (show g < wr.heap.size from HR.out.lt)
              have HK3 := Lib.hid (own_only hK2 (((Only.refl g w2).alloc (.cells #[.string nm, .slice A1 ks.length c1] 70)).alloc (.cells #[.string nm, .slice A1 ks.length c1] 70)) HW.out)
              have HO3 := Lib.hid ((hO2.alloc (.cells #[.string nm, .slice A1 ks.length c1] 70)).alloc (.cells #[.string nm, .slice A1 ks.length c1] 70))
              have HR3 := Lib.hid ((hR2.alloc (.cells #[.string nm, .slice A1 ks.length c1] 70)).alloc (.cells #[.string nm, .slice A1 ks.length c1] 70))
              have hB7 := Blk.new w2 70 #[.string nm, .slice A1 ks.length c1]
              have k70 : (w2.alloc (.cells #[.string nm, .slice A1 ks.length c1] 70)).cell? ⟨w2.heap.size, 0, none⟩ = some (.string nm) := hB7.cell 0
              have k71 : (w2.alloc (.cells #[.string nm, .slice A1 ks.length c1] 70)).cell? ⟨w2.heap.size, 1, none⟩ = some (.slice A1 ks.length c1) := hB7.cell 1
              have HRD := Lib.hid (reads_new (w2.alloc (.cells #[.string nm, .slice A1 ks.length c1] 70)) #[.string nm, .slice A1 ks.length c1] 70 2 1 rfl)
              have HS3 := Lib.hid (show wr.heap.size ≤ w2.heap.size from hO2.size)
              clear hE hK2 hR2 hO2 hB7
              have HI3 := Lib.hid (HI.out.only HO3.out HG.out.2)
              generalize w2.alloc (.cells #[.string nm, .slice A1 ks.length c1] 70) = w3 at *
              obtain ⟨i0, hi0, hz0, hz1, hz2⟩ := info_parts stepz_info
              go_upto_region 15 with (at_builtin; go_loud (refine wpList_append_any _ rfl (.tmp 50) (.tmp 52) _ rfl wA.heap.size 70 i0 _ 2 40 Tryz.underlying59 hi0 hz0 hz1 hz2 rfl (by omega) _ l.length (stepCells l vs) rfl HI3.out.2.1 (w3.heap.size + 1) (some ⟨w3.heap.size, 0, none⟩) 1 1 [.string nm, .slice A1 ks.length c1] rfl (HRD.out) (by simp [Value.oneCell']) (by have := HL.out; simp only [maxLen]; omega) (by have := HL.out; omega) (by have := HO.out.size; have := HO3.out.size; omega) ?_); intro v3 w5 hown3 hg3 hat3)
              have HI5 := Lib.hid (StepsIn.push (st := (nm, ks)) HI3.out HO.out.size (fun i kv' k hi hk => (HI.out.lt i kv' k hi hk).2) HK3.out hg3 hown3)
              have hrow : ∀ k, (Value.slice A l.length c).ownBlock = some k → wA.heap.size ≤ k := fun k hk => (HI3.out.2.1.lt k hk).1
              have hR5 : PR w5 g s q 0 0 := Blk.grown HR3.out hg3 (fun e => by have := hrow _ e.symm; have := HG.out; omega)
              have HO5 := Lib.hid ((HO.out.trans HO3.out).grown hg3 hrow)
              have HB5 := Lib.hid (show Blk w5 w.heap.size 43 #[.int .i64 0, .int .i64 0] from Blk.grown ((HO3.out.block _ HB.out.lt (by have := HG.out; simp; omega)).trans HB.out) hg3 (fun e => by have := hrow _ e.symm; have := HG.out; omega))
              obtain ⟨A3, c3, rfl, -, -, -⟩ := own_form hown3
              clear hown3 hg3 hat3 hrow HI3 HO3 HK3 HR3 HRD k70 k71
              have k1 := hR5.c1
              have HR5 := Lib.hid hR5
              clear hR5
              by_cases hq : q = s.size
              · have HM2 := Lib.hid (show parseM s = .ok (l ++ [(nm, ks)]) by rw [HM.out]; exact steps_end HL.out (by rw [← hq]; exact HE.out))
                have hq1 : ((q : Int) == (s.size : Int)) = true := by simp [hq]
                obtain ⟨b0, b1, b2, b3, b4, b5⟩ := HB5.out.two (.int .i64 0)
                clear hq
                go_wp2
                refine bodyPost_ret (parse_result (HB5.out.two_set _ _) rfl rfl) rfl ⟨((Below.only HBA.out HO5.out (by have := HG.out; omega) (by have := HG.out; omega)).setCell (by simp) _).setCell (by simp) _, .inr ⟨_, _, HM2.out, rfl, _, StepsIn.base (StepsIn.only (g := w.heap.size) HI5.out (((Only.refl w.heap.size w5).setCell (.inl rfl) _).setCell (.inl rfl) _) (by have := HG.out; omega)) (by have := HG.out; omega)⟩⟩
              · have hq1 : ((q : Int) == (s.size : Int)) = false := by rw [beq_eq_false_iff_ne]; omega
                have HQN := Lib.hid hq
                clear hq
                cases hsl : standsB s q 47
                · have HNx := Lib.hid (next_no g q s 0 0 47 w5 HR5.out (by have := HS.out; omega) hsl)
                  have HE := Lib.hid (show parseM s = .error (160, (q : Int)) by rw [HM.out]; exact steps_no HL.out HE.out HQN.out hsl)
                  clear hsl
                  go_upto_region 19 with (first
                    | (go_at_call 60
                       refine HNx.out.mono ?_
                       rintro en w6 ⟨rfl, hR6, hO6⟩
                       have HO6 := Lib.hid (HO5.out.trans hO6)
                       have HB6 := Lib.hid (show Blk w6 _ _ _ from (hO6.block _ HB5.out.lt (by have := HG.out; simp; omega)).trans HB5.out)
                       have k6 := hR6.c1
                       have HR6 := Lib.hid hR6
                       clear hR6 hO6)
                    | (go_at_call 58
                       refine (fail_any g q s 0 0 160 q _ HR6.out).mono ?_
                       rintro en w7 ⟨rfl, hR7, hO7⟩
                       have k2 := hR7.c2
                       have k3 := hR7.c3
                       have HB7 := Lib.hid (show Blk w7 _ _ _ from (hO7.block _ HB6.out.lt (by have := HG.out; simp; omega)).trans HB6.out)
                       obtain ⟨b0, b1, b2, b3, b4, b5⟩ := HB7.out.two (.int .i64 160)
                       have HO7 := Lib.hid (HO6.out.trans hO7)
                       clear hR7 hO7))
                  go_region_with (fail)
                  all_goals
                    go_wp2
                    change bodyPost Tryz.prog Tryz.f32 (ParsePost s w) Exit.ret _ _
                    exact bodyPost_ret (parse_result ((HB7.out.two_set _ _).drewN 1) rfl rfl) rfl (parse_bad ⟨Nat.le_refl _, HG.out.1⟩ HO7.out HBA.out HG.out.2 HE.out)
                · have HNx := Lib.hid (next_yes g q s 0 0 47 w5 HR5.out (by have := HS.out; omega) hsl)
                  have HM2 := Lib.hid (show parseM s = stepsM s (q + 1) (l ++ [(nm, ks)]) by rw [HM.out]; exact steps_go HL.out HE.out HQN.out hsl)
                  have HSL := Lib.hid (stands_lt hsl)
                  clear hsl
                  go_wp2_with (go_at_call 60; refine HNx.out.mono ?_; rintro en w6 ⟨rfl, hR6, hO6⟩; have HO6 := Lib.hid hO6; have HR6 := Lib.hid hR6; clear hR6 hO6)
                  go_roundw
                  case rel => exact ⟨q + 1, l ++ [(nm, ks)], _, HR6.out, (HO6.out.block _ HB5.out.lt (by have := HG.out; simp; omega)).trans HB5.out, HO5.out.trans HO6.out, HI5.out.only HO6.out HG.out.2, HSL.out, by have := HP.out; have := HQ.out; simp; omega, by have := HL.out; simp; omega, HM2.out⟩
                  case measure =>
                    rw [atOf_pr HR.out, atOf_pr HR6.out]
                    have := HSL.out
                    have := HQ.out
                    omega
end Go.Proofs.YtkfofdmcggoonaaGreatDoor
/-
  The walks of slices.Grow (of nil) and slices.Concat at steps. Condition: at most 100000 elements.
-/
namespace Go.Proofs.YtkfofdmcggoonaaGreatDoor
open Go.RowKit

theorem wpList_append_run' {P : Program} (w : World) {ops : Array Oper} {rest : List Oper} {o : Oper} {a : Act} {Q : Exit → Act → World → Prop} (hgd : o.guard = none) (s x : Operand) (t tn : TypeId)
    (ho : o.op = .call { callee := .builtin .append, args := #[s, x], argTypes := #[t, tn] }) (vs vx : Value) (hs : a.eval s = vs) (hx : a.eval x = vx)
    (v' : Value) (w' : World) (hr : (Builtin.append_ #[t, tn] o.type #[vs, vx]).run P w = .ok v' w') (h : wpList P ops Q rest (a.put o.dst v') w') : wpList P ops Q (o :: rest) a w :=
  Lib.wpList_append_run w hgd s x t tn ho vs vx hs hx v' w' hr h
def GrowPost (w : World) (en : Ending) (w' : World) : Prop := ∃ v, en = .returned v ∧ w'.ownsRow w.heap.size 70 2 v 0 [] ∧ w.grownBy w' none
set_option maxRecDepth 100000 in
theorem grow_any (n : Nat) (w : World) (hn : n ≤ 10000000) :
    Calls Tryz.prog 99 #[.slice none 0 0, .int .i64 (n : Int)] w (GrowPost w) := by
  by_cases h0 : n = 0
  · subst h0
    go_enter Tryz.func99, Tryz.ntmps99
    go_wp2
    go_ret
    exact ⟨_, rfl, World.ownsRow_nil _ _ _ _, World.grownBy.refl _ _⟩
  · have hn0 : ¬ (n : Int) < 0 := by omega
    have hn1 : (0 : Int) < (n : Int) := by omega
    have hn2 : (n : Int) ≤ 10000000 := by omega
    obtain ⟨i0, hi0, hz0, hz1, hz2⟩ := info_parts stepz_info
    have HA := Lib.hid (Lib.run_append_nil_zeros (P := Tryz.prog) w 59 3 59 70 i0 _ .i64 .i64 Tryz.underlying59 Tryz.underlying3 hi0 hz0 n (by omega) (by omega) (by omega) (by rw [hz2]; omega))
    have HO := Lib.hid (show ∀ cap, cap = grownCap w n 0 70 → (w.drew.alloc (.cells (Builtin.zeroCells (Value.agg #[.string ByteArray.empty, .slice none 0 0]).cells n ++ Builtin.zeroCells (Value.agg #[.string ByteArray.empty, .slice none 0 0]).cells (cap - n)) 70)).ownsRow w.heap.size 70 2 (.slice (some ⟨w.heap.size, 0, none⟩) 0 cap) 0 [] from fun cap hc => by
      have hge := grownCap_ge w n 0 70
      have hcm : grownCap w n 0 70 ≤ maxLen := grownCap_le_maxLen w n 0 70 (by simp only [maxLen]; omega)
      have hz : (Value.agg #[.string ByteArray.empty, .slice none 0 0]).cells.size = 2 := rfl
      refine ⟨rfl, .inr ⟨w.heap.size, cap, _, rfl, Nat.le_refl _, heap_alloc_new w.drew _, Nat.zero_le _, by omega, ?_, by simp⟩⟩
      simp only [Array.size_append, size_zeroCells, hz]
      omega)
    have HG := Lib.hid (show ∀ o, w.grownBy (w.drew.alloc o) none from fun o => ⟨rfl, rfl, rfl, by simp, fun k hk _ => Below.heap_alloc w.drew o k hk⟩)
    generalize grownCap w n 0 70 = cap at *
    clear h0
    go_enter Tryz.func99, Tryz.ntmps99
    go_wp2_with (at_builtin; go_loud (refine wpList_append_run' w rfl (.tmp 20) (.tmp 21) _ _ rfl _ _ rfl rfl _ _ HA.out ?_))
    go_ret
    exact ⟨_, rfl, HO.out _ rfl, HG.out _⟩

/-- A row of two-cell elements, read. -/
def RowR (w : World) (B : Nat) (v : Value) (n : Nat) (xs : List Value) : Prop := ∃ A c, v = .slice A n c ∧ n ≤ c ∧ c ≤ maxLen ∧ Reads w B 2 A n xs
abbrev LRow := Value × Nat × List Value
def sumL (ls : List LRow) : Nat := (ls.map fun x => x.2.1).sum
def flatL (ls : List LRow) : List Value := ls.flatMap fun x => x.2.2
theorem sumL_take (ls : List LRow) (p : Nat) (x : LRow) (h : ls[p]? = some x) : sumL (ls.take (p + 1)) = sumL (ls.take p) + x.2.1 := by
  rw [List.take_add_one, h]
  simp [sumL]
theorem flatL_take (ls : List LRow) (p : Nat) (x : LRow) (h : ls[p]? = some x) : flatL (ls.take (p + 1)) = flatL (ls.take p) ++ x.2.2 := by
  rw [List.take_add_one, h]
  simp [flatL]
theorem sumL_le (ls : List LRow) (p : Nat) : sumL (ls.take p) ≤ sumL ls := by
  have : sumL ls = sumL (ls.take p) + sumL (ls.drop p) := by
    conv => lhs; rw [← List.take_append_drop p ls]
    simp only [sumL, List.map_append, List.sum_append]
  omega
def ConcatPost (ls : List LRow) (w : World) (en : Ending) (w' : World) : Prop := ∃ v, en = .returned v ∧ w'.ownsRow w.heap.size 70 2 v (sumL ls) (flatL ls) ∧ Below w.heap.size w w'
def ListsAt (w : World) (A : Option Addr) (ls : List LRow) : Prop :=
  Reads w w.heap.size 1 A ls.length (ls.map fun x => x.1) ∧ ∀ x ∈ ls, RowR w w.heap.size x.1 x.2.1 x.2.2 ∧ ∀ u ∈ x.2.2, u.oneCell' = true

set_option maxHeartbeats 4000000 in
theorem concat_any (A : Option Addr) (m c : Nat) (ls : List LRow) (w : World) (hm : ls.length = m) (hl : ListsAt w A ls) (hn : sumL ls ≤ 10000000) (hms : m ≤ 1000) :
    Calls Tryz.prog 78 #[.slice A m c] w (ConcatPost ls w) := by
  have hms2 : (m : Int) ≤ 1000 := by omega
  have HL := Lib.hid hl
  have HM := Lib.hid hm
  have HN := Lib.hid hn
  clear hl hm hn
  go_enter Tryz.func78, Tryz.ntmps78
  go_wp2
  go_loopw [3, 5, 11] (fun sv _ iv wr => wr = w ∧ ∃ p : Nat, sv = .int .i64 (sumL (ls.take p) : Int) ∧ iv = .int .i64 (p : Int) ∧ p ≤ m) (fun _ _ iv _ => m - (Lib.intOf iv).toNat)
  case atStart => exact ⟨rfl, 0, by simp [sumL], rfl, Nat.zero_le _⟩
  case round =>
    obtain ⟨rfl, p, rfl, rfl, hp⟩ := hrel
    by_cases hlt : p < m
    · obtain ⟨x, hx⟩ : ∃ x, ls[p]? = some x := ⟨ls[p]'(by have := HM.out; omega), by have := HM.out; simp [this, hlt]⟩
      have hq : (p : Int) < (m : Int) := by omega
      have hmem := HL.out.2 x (List.mem_of_getElem? hx)
      obtain ⟨b, o, rfl, hbo, hcells⟩ := HL.out.1.spot (by have := HM.out; omega) (by omega)
      have hc0 : wr.cell? ⟨b, o + p, none⟩ = some x.1 := hcells p _ (by simp [hx])
      obtain ⟨⟨A1, c1, hv, _, _, _⟩, _⟩ := hmem
      rw [hv] at hc0
      have HT := Lib.hid (sumL_take ls p x hx)
      have hs1 : (sumL (ls.take p) : Int) + (x.2.1 : Int) ≤ 10000000 := by
        have h1 := sumL_le ls (p + 1)
        have h2 := HN.out
        rw [HT.out] at h1
        omega
      have hs2 : ¬ ((sumL (ls.take p) : Int) + (x.2.1 : Int)) < 0 := by omega
      generalize sumL (ls.take p) = sp at *
      clear hcells hv
      go_wp2
      go_roundw
      case rel => exact ⟨trivial, p + 1, by rw [HT.out]; simp, by simp, hlt⟩
      case measure => simp [Lib.intOf]; omega
    · obtain rfl : p = m := by omega
      have hq : ¬ (p : Int) < (p : Int) := by omega
      have HT := Lib.hid (show ls.take p = ls from List.take_of_length_le (by have := HM.out; omega))
      rw [HT.out]
      have HG := Lib.hid (grow_any (sumL ls) wr HN.out)
      have hsz : (sumL ls : Int) ≤ 10000000 := by have := HN.out; omega
      have HF := Lib.hid (show sumL ls = sumL ls from rfl)
      clear hlt hq
      go_upto_region 10 with (go_at_call 99; go_loud (refine HG.out.mono ?_; rintro en w1 ⟨v1, rfl, hO1, hG1⟩; have HO1 := Lib.hid hO1; have HG1 := Lib.hid hG1; clear hO1 hG1))
      have HBl := Lib.hid (show Below wr.heap.size wr w1 from ⟨HG1.out.os, HG1.out.tape, HG1.out.output, HG1.out.size, fun k hk => HG1.out.block k hk (by simp)⟩)
      clear HG HG1
      have HR0 := Lib.hid HL.out.1
      have HR1 := Lib.hid HL.out.2
      clear HL
      generalize hbase : wr.heap.size = base at *
      have HBASE := Lib.hid hbase
      clear hbase
      go_wp2
      go_loopw [6, 8, 27] (fun v _ iv W => ∃ q : Nat, iv = .int .i64 (q : Int) ∧ q ≤ p ∧ W.ownsRow base 70 2 v (sumL (ls.take q)) (flatL (ls.take q)) ∧ Below base wr W) (fun _ _ iv _ => p - (Lib.intOf iv).toNat)
      case atStart => exact ⟨0, rfl, Nat.zero_le _, by simpa [sumL, flatL] using HO1.out, HBl.out⟩
      case round =>
        obtain ⟨q, rfl, hqp, hown, hB⟩ := hrel
        have HO := Lib.hid hown
        have HB := Lib.hid hB
        clear hown hB
        by_cases hlt : q < p
        · obtain ⟨x, hx⟩ : ∃ x, ls[q]? = some x := ⟨ls[q]'(by have := HM.out; omega), by have := HM.out; simp [this, hlt]⟩
          have hq : (q : Int) < (p : Int) := by omega
          have hmem := HR1.out x (List.mem_of_getElem? hx)
          obtain ⟨b, o, rfl, hbo, hcells⟩ := (HR0.out.below HB.out).spot (by have := HM.out; omega) (by omega)
          have hc0 : wr.cell? ⟨b, o + q, none⟩ = some x.1 := hcells q _ (by simp [hx])
          obtain ⟨⟨A1, c1, hv, _, _, hRd⟩, hone⟩ := hmem
          rw [hv] at hc0
          have HT := Lib.hid (And.intro (sumL_take ls q x hx) (flatL_take ls q x hx))
          have HS := Lib.hid (show sumL (ls.take q) + x.2.1 ≤ 10000000 by
            have h1 := sumL_le ls (q + 1)
            have h2 := HN.out
            rw [HT.out.1] at h1
            omega)
          have HRd := Lib.hid (hRd.below HB.out)
          have HOne := Lib.hid hone
          obtain ⟨i0, hi0, hz0, hz1, hz2⟩ := info_parts stepz_info
          generalize sumL (ls.take q) = sq at *
          generalize flatL (ls.take q) = fq at *
          clear hcells hv hRd hone
          go_wp2_with (at_builtin; go_loud (refine wpList_append_any _ rfl (.tmp 31) (.tmp 32) _ rfl base 70 i0 _ 2 40 Tryz.underlying59 hi0 hz0 hz1 hz2 rfl (by omega) _ sq fq rfl HO.out base A1 x.2.1 c1 x.2.2 rfl HRd.out HOne.out (by have := HS.out; simp only [maxLen]; omega) (by have := HS.out; omega) (by have := HB.out.size; have := HBASE.out; omega) ?_); intro v3 w5 hown3 hg3 hat3; have HO5 := Lib.hid hown3; have HG5 := Lib.hid hg3; have HA5 := Lib.hid hat3; clear hown3 hg3 hat3)
          go_roundw
          case rel => exact ⟨q + 1, by simp, hlt, by rw [HT.out.1, HT.out.2]; exact HO5.out, HB.out.grown HG5.out (by have := HB.out.size; have := HBASE.out; omega) (fun k hk => (HO.out.lt k hk).1)⟩
          case measure => simp [Lib.intOf]; omega
        · have hq : ¬ (q : Int) < (p : Int) := by omega
          have HT2 := Lib.hid (show ls.take q = ls from List.take_of_length_le (by have := HM.out; omega))
          rw [HT2.out] at HO
          go_wp2
          go_ret
          exact ⟨_, rfl, by rw [HBASE.out]; exact HO.out, by rw [HBASE.out]; exact HB.out⟩
end Go.Proofs.YtkfofdmcggoonaaGreatDoor
