/-
  The state of bundle's Sort: what is said, the lists name by name, the names. Plain lemmas, keys of two texts, the sort of a list of values. No condition.
-/
import Derived.Test.YtfpepdjffehbcaaGreatBunSrtP
import Derived.Test.YtfpepdjffehbcaaGreatBunCut
import Derived.Test.YtfpepdjffehbcaaGreatBunLayS
import Derived.Test.YtfpepdjffehbcaaGreatSortVLay
import Derived.Laws.ResultCell
import Derived.DeepKeys4
set_option linter.unusedVariables false
set_option linter.unusedSimpArgs false
namespace Go.Proofs.YtfpepdjffehbcaaGreat
open Go.RowKit Go.Shelf Go.Lib Go.Sort

theorem results_cell_cell {fn : Func} {p q : Tmp} {ty ty' : TypeId} (h : fn.results = #[.cell p ty, .cell q ty']) (tmps : Array Value) (P : Program) (w : World) :
    (results fn tmps).run P w = ((asAddr (tmps.getD p undef)).run P w).andThen fun a w₁ => ((loadVar ty a).run P w₁).andThen fun v w₂ => ((asAddr (tmps.getD q undef)).run P w₂).andThen fun b w₃ => ((loadVar ty' b).run P w₃).andThen fun u w₄ => .ok (.tuple #[v, u]) w₄ := by
  simp only [results, h]
  simp [Sem.run_bind, Result.andThen]
theorem results_row_row {fn : Func} {P : Program} {p q : Tmp} {ty ty' : TypeId} (h : fn.results = #[.cell p ty, .cell q ty']) (tmps : Array Value) (w : World) (g g' : Nat) (t t' : TypeId) (cs cs' : Array Value) (d d' : TypeDesc)
    (hp : tmps.getD p undef = .pointer (some ⟨g, 0, none⟩)) (hg : Blk w g t cs) (hq : tmps.getD q undef = .pointer (some ⟨g', 0, none⟩)) (hg' : Blk w g' t' cs')
    (hu : P.underlying ty = some d) (hd : (match d with | .struct _ | .array _ _ => true | _ => false) = true) (hi : (P.info? ty).map (·.size) = some cs.size)
    (hu' : P.underlying ty' = some d') (hd' : (match d' with | .struct _ | .array _ _ => true | _ => false) = true) (hi' : (P.info? ty').map (·.size) = some cs'.size) :
    (results fn tmps).run P w = .ok (.tuple #[.agg cs, .agg cs']) w := by
  rw [results_cell_cell h, hp, hq]
  simp [asAddr, Result.andThen, run_loadVar_row w g t ty cs (0, 0) d hg hu hd hi, run_loadVar_row w g' t' ty' cs' (0, 0) d' hg' hu' hd' hi']

/-- Keys of two texts. -/
def pairOk (k : ByteArray × ByteArray) : Prop := k.1.size ≤ maxLen ∧ k.2.size ≤ maxLen
def pairL (k : ByteArray × ByteArray) : Lit := .string (keyBytes [.string k.1.data.toList, .string k.2.data.toList])
theorem laidOutA : laidOutB Tryz.prog = true := by kernel_rfl
theorem row_pair : (100 : TypeId) < Tryz.prog.types.size := of_decide_eq_true (by kernel_rfl)
theorem wide_pair : (match Tryz.prog.underlying 100 with | some (.array _ _) | some (.struct _) => true | _ => false) = true := by rw [Tryz.underlying100]
set_option maxRecDepth 100000 in
theorem law_pair : Maps.Keyed Tryz.prog 100 := Maps.Keyed.of_law (deep_law_laid laidOutA (m := 2) (by omega) row_pair (by kernel_rfl) wide_pair)
theorem cells_pair : Tryz.prog.cellsOf 100 = 2 := by kernel_rfl
theorem cells_str : Tryz.prog.cellsOf 9 = 1 := by kernel_rfl
theorem formed_pair {c0 c1 : Value} : (Value.agg #[c0, c1]).formed Tryz.prog 100 = true := by simp [Value.formed, Tryz.underlying100, cells_pair]
theorem ktype_pair : Tryz.prog.keyType 100 = true := by kernel_rfl
theorem tsize_two : ∃ n, Tryz.prog.types.size = n + 1 := ⟨Tryz.prog.types.size - 1, by
  have h : (0 : Nat) < Tryz.prog.types.size := of_decide_eq_true (by kernel_rfl)
  omega⟩
theorem key_pair {k : ByteArray × ByteArray} (h : pairOk k) : keyOf Tryz.prog 100 (.agg #[.string k.1, .string k.2]) = some (pairL k) := by
  have hl : Tryz.prog.keyLits (Tryz.prog.types.size + 1) 100 [.string k.1, .string k.2] = some [.string k.1.data.toList, .string k.2.data.toList] := by
    obtain ⟨n, hn⟩ := tsize_two
    rw [hn]
    have h1 : ∀ (s : ByteArray), s.size ≤ maxLen → Tryz.prog.keyLits (n + 1) 9 [.string s] = some [.string s.data.toList] := fun s hs => by
      unfold Program.keyLits
      rw [Tryz.underlying9]
      simp only [if_pos hs]
    unfold Program.keyLits
    rw [Tryz.underlying100]
    simp only [cells_pair, cells_str, List.length_cons, List.length_nil]
    rw [if_pos trivial]
    have e : (List.range 2).mapM (fun i => Tryz.prog.keyLits (n + 1) 9 (([.string k.1, .string k.2] : List Value).drop (i * 1) |>.take 1)) = some [[.string k.1.data.toList], [.string k.2.data.toList]] := by
      have e0 : List.range 2 = [0, 1] := rfl
      rw [e0]
      simp only [List.mapM_cons, List.mapM_nil, Nat.zero_mul, Nat.one_mul, List.drop_zero, List.drop_succ_cons, List.take_succ_cons, List.take_zero]
      rw [h1 _ h.1, h1 _ h.2]
      rfl
    rw [e]
    rfl
  unfold keyOf
  rw [Tryz.underlying100]
  simp only [ktype_pair, formed_pair, Bool.and_self, if_true]
  unfold pairL
  have e2 : (Value.agg #[Value.string k.1, Value.string k.2]).cells.toList = [.string k.1, .string k.2] := rfl
  rw [e2, hl]
  rfl
theorem pairL_inj (x y : ByteArray × ByteArray) (hx : pairOk x) (hy : pairOk y) (h : pairL x = pairL y) : x = y := by
  have h1 := key_pair hx
  have h2 := key_pair hy
  rw [h] at h1
  have h3 := law_pair.inj h1 h2
  have h4 : [Value.string x.1, .string x.2] = [Value.string y.1, .string y.2] := congrArg Array.toList (Value.agg.inj h3)
  obtain ⟨h5, h6⟩ := List.cons.inj h4
  obtain ⟨h6, -⟩ := List.cons.inj h6
  exact Prod.ext (Value.string.inj h5) (Value.string.inj h6)
theorem zero_str (w : World) : (zeroValue 9).run Tryz.prog w = .ok (.string ByteArray.empty) w := by kernel_rfl
theorem zero_vals (w : World) : (zeroValue 54).run Tryz.prog w = .ok (.slice none 0 0) w := by kernel_rfl

abbrev PMap (B : Nat) (W : World) (mr cap : Nat) (ps : List (REnt PKey)) : Prop := RowMap Tryz.prog 9 B 59 2 pairCells W mr cap ps
abbrev SMap (W : World) (b n : Nat) (L : List (ByteArray × PKey)) : Prop := ∃ m, MapG Tryz.prog 100 pairL pairOk W b n m (saidF L)
theorem PMap.stays {B : Nat} {W W' : World} {mr cap : Nat} {ps : List (REnt PKey)} (h : PMap B W mr cap ps) {u : Value} {Bu size n : Nat} {e : TypeId} {xs : List Value} (hu : W.ownsRow Bu e size u n xs) (hne : 59 ≠ e) (hg : W.grownBy W' u.ownBlock) : PMap B W' mr cap ps :=
  h.kept hg (fun e => own_map h.1 hu e.symm) fun p hp => by
    cases hv : p.2.1.ownBlock with
    | none => exact .inl rfl
    | some k => exact .inr fun e => own_other (h.2.2.1 p hp) hu hne k hv e.symm
theorem PMap.staysB {B : Nat} {W W' : World} {mr cap : Nat} {ps : List (REnt PKey)} (h : PMap B W mr cap ps) {r : Nat} {t : TypeId} {cs : Array Value} (hb : Blk W r t cs) (hne : 59 ≠ t) (hr : mr ≠ r) (hg : W.grownBy W' (some r)) : PMap B W' mr cap ps :=
  h.kept hg (fun e => hr (Option.some.inj e)) fun p hp => by
    cases hv : p.2.1.ownBlock with
    | none => exact .inl rfl
    | some k => exact .inr fun e => own_blkB (h.2.2.1 p hp) hb hne hv (Option.some.inj e)
/-- A block is no map's. -/
theorem blk_map {κ : Type} {P : Program} {k : TypeId} {kl : κ → Lit} {ok : κ → Prop} {w : World} {b n m : Nat} {f : κ → Option Value} {r : Nat} {t : TypeId} {cs : Array Value} (h : MapG P k kl ok w b n m f) (hB : Blk w r t cs) : b ≠ r := by
  rintro rfl
  obtain ⟨D, ⟨es, clock, hh, -⟩, -⟩ := h
  unfold Blk at hB
  rw [hB] at hh
  cases hh
/-- The state of Sort: a, b, c, d the blocks of the bundle's and the fault's result and of the two maps. -/
def SS (w W : World) (nv : Value) (L : List (ByteArray × PKey)) (ps : List (REnt PKey)) : Prop :=
  Below w.heap.size w W ∧ Blk W (w.heap.size + 1) 24 #[.slice none 0 0] ∧ Blk W (w.heap.size + 2) 34 #[.int .i64 0, .int .i64 0] ∧ SMap W (w.heap.size + 3) L.length L ∧ PMap w.heap.size W (w.heap.size + 4) (L.length + ps.length) ps ∧ W.ownsRow w.heap.size 9 1 nv ps.length (strsV (ps.map fun p => p.1))
section
variable {w W W' W2 : World} {nv : Value} {L : List (ByteArray × PKey)} {ps : List (REnt PKey)}
theorem SS.on (h : SS w W nv L ps) (hb : Below W.heap.size W W') : SS w W' nv L ps := by
  obtain ⟨h1, h2, h3, ⟨m, h4⟩, h5, h6⟩ := h
  exact ⟨h1.trans (hb.mono h1.size), h2.below hb h2.lt, h3.below hb h3.lt, ⟨m, h4.on hb⟩, h5.on hb, own_more h6 hb⟩
theorem SS.alloc (h : SS w W nv L ps) (o : Obj) : SS w (W.alloc o) nv L ps := h.on ((Below.refl _ W).alloc (Nat.le_refl _) o)
theorem SS.lt (h : SS w W nv L ps) : w.heap.size + 4 < W.heap.size := h.2.2.2.2.1.1.lt
theorem SS.names (h : SS w W nv L ps) {n : Nat} (hn : ps.length = n) : W.ownsRow w.heap.size 9 1 nv n (strsV (ps.map fun p => p.1)) := hn ▸ h.2.2.2.2.2
theorem SS.rowAt (h : SS w W nv L ps) (s : ByteArray) {u : Value} (hu : (lookF ps s).getD (.slice none 0 0) = u) : W.ownsRow w.heap.size 59 2 u (lookR ps s).length (pairCells (lookR ps s)) := by
  cases hl : lookF ps s with
  | none =>
    rw [hl] at hu
    rw [lookR_none (lookF_none.1 hl), ← hu]
    exact World.ownsRow_nil _ _ _ _
  | some v =>
    rw [hl] at hu
    have := h.2.2.2.2.1.2.2.1 _ (look_some hl)
    rw [← hu]
    exact this
/-- A name is put behind the others. -/
theorem SS.push (h : SS w W nv L ps) (hg : W.grownBy W' nv.ownBlock) :
    Below w.heap.size w W' ∧ Blk W' (w.heap.size + 1) 24 #[.slice none 0 0] ∧ Blk W' (w.heap.size + 2) 34 #[.int .i64 0, .int .i64 0] ∧ SMap W' (w.heap.size + 3) L.length L ∧ PMap w.heap.size W' (w.heap.size + 4) (L.length + ps.length) ps := by
  obtain ⟨h1, h2, h3, ⟨m, h4⟩, h5, h6⟩ := h
  exact ⟨h1.grown hg h1.size (fun k hk => (h6.lt k hk).1), blk_stays h2 h6 (by decide) hg, blk_stays h3 h6 (by decide) hg, ⟨m, h4.kept hg (fun e => own_map h4 h6 e.symm)⟩, h5.stays h6 (by decide) hg⟩
theorem grown_self (W : World) (row : Option Nat) : W.grownBy W row := ⟨rfl, rfl, rfl, Nat.le_refl _, fun _ _ _ => rfl⟩
theorem SS.name (h : SS w W nv L ps) {nm : ByteArray} (hl : lookF ps nm = none) {nv' : Value} {n m' : Nat} (hn : ps.length = n) (hown : W'.ownsRow w.heap.size 9 1 nv' (n + 1) (strsV (ps.map fun p => p.1) ++ [.string nm])) (hg : W.grownBy W' nv.ownBlock)
    (hM : MapS W2 (w.heap.size + 4) (L.length + ps.length + 1) m' (putMF (lookF ps) nm (.slice none 0 0))) (hm' : m' = if (lookF ps nm).isSome then ps.length else ps.length + 1) (hg2 : W'.grownBy W2 (some (w.heap.size + 4))) : SS w W2 nv' L (updM ps nm (.slice none 0 0) []) := by
  obtain ⟨b1, b2, b3, ⟨m, b4⟩, b5⟩ := h.push hg
  have hlen : (updM ps nm (.slice none 0 0) []).length = ps.length + 1 := by rw [updM_len, hl, if_neg (by simp)]
  have hkeys : (updM ps nm (.slice none 0 0) []).map (fun p => p.1) = ps.map (fun p => p.1) ++ [nm] := by rw [updM_keys, hl, if_neg (by simp)]
  refine ⟨b1.grown hg2 b1.size (fun k hk => by cases hk; omega), b2.grown hg2 (fun e => by have := Option.some.inj e; omega), b3.grown hg2 (fun e => by have := Option.some.inj e; omega), ⟨m, b4.kept hg2 (fun e => by have := Option.some.inj e; omega)⟩, ?_, ?_⟩
  · rw [hlen, ← Nat.add_assoc]
    exact b5.put (fun p hp => own_map b5.1 (b5.2.2.1 p hp)) (u := .slice none 0 0) (by rw [hl]; rfl) (grown_self W' _) (World.ownsRow_nil _ _ _ _) (.inl rfl) hM hm' hg2 (by simp [Value.ownBlock])
  · rw [hlen, hkeys]
    subst hn
    have : strsV (ps.map (fun p => p.1) ++ [nm]) = strsV (ps.map fun p => p.1) ++ [.string nm] := by simp [strsV]
    rw [this]
    exact own_stays2 hown hg2 fun k hk e => own_map b5.1 hown (by rw [hk]; exact e.symm)
/-- A value that was not said is said. -/
theorem SS.say (h : SS w W nv L ps) {nm : ByteArray} {v : PKey} (hs : saidF L (nm, v.1) = none) {m' : Nat}
    (hM : MapG Tryz.prog 100 pairL pairOk W' (w.heap.size + 3) (L.length + 1) m' (putMF (saidF L) (nm, v.1) (.string v.2))) (hg : W.grownBy W' (some (w.heap.size + 3))) :
    Below w.heap.size w W' ∧ Blk W' (w.heap.size + 1) 24 #[.slice none 0 0] ∧ Blk W' (w.heap.size + 2) 34 #[.int .i64 0, .int .i64 0] ∧ SMap W' (w.heap.size + 3) (L ++ [(nm, v)]).length (L ++ [(nm, v)]) ∧ PMap w.heap.size W' (w.heap.size + 4) (L.length + ps.length) ps ∧ W'.ownsRow w.heap.size 9 1 nv ps.length (strsV (ps.map fun p => p.1)) := by
  obtain ⟨h1, h2, h3, ⟨m, h4⟩, h5, h6⟩ := h
  refine ⟨h1.grown hg h1.size (fun k hk => by cases hk; omega), h2.grown hg (fun e => by have := Option.some.inj e; omega), h3.grown hg (fun e => by have := Option.some.inj e; omega), ⟨m', ?_⟩, h5.kept hg (fun e => by have := Option.some.inj e; omega) (fun p hp => ?_), own_stays2 h6 hg fun k hk e => own_map h4 h6 (by rw [hk]; exact e.symm)⟩
  · rw [List.length_append, ← saidF_put hs]
    exact hM
  · cases hv : p.2.1.ownBlock with
    | none => exact .inl rfl
    | some k => exact .inr fun e => own_map h4 (h5.2.2.1 p hp) (by rw [hv]; exact e)
end
/-- The state between what is said and the list. -/
def SV (w W : World) (nv : Value) (L : List (ByteArray × PKey)) (x : ByteArray × PKey) (ps : List (REnt PKey)) : Prop :=
  Below w.heap.size w W ∧ Blk W (w.heap.size + 1) 24 #[.slice none 0 0] ∧ Blk W (w.heap.size + 2) 34 #[.int .i64 0, .int .i64 0] ∧ SMap W (w.heap.size + 3) (L ++ [x]).length (L ++ [x]) ∧ PMap w.heap.size W (w.heap.size + 4) (L.length + ps.length) ps ∧ W.ownsRow w.heap.size 9 1 nv ps.length (strsV (ps.map fun p => p.1))
section
variable {w W W' W2 : World} {nv : Value} {L : List (ByteArray × PKey)} {x : ByteArray × PKey} {ps : List (REnt PKey)}
theorem SV.on (h : SV w W nv L x ps) (hb : Below W.heap.size W W') : SV w W' nv L x ps := by
  obtain ⟨h1, h2, h3, ⟨m, h4⟩, h5, h6⟩ := h
  exact ⟨h1.trans (hb.mono h1.size), h2.below hb h2.lt, h3.below hb h3.lt, ⟨m, h4.on hb⟩, h5.on hb, own_more h6 hb⟩
theorem SV.rowAt (h : SV w W nv L x ps) (s : ByteArray) {u : Value} (hu : (lookF ps s).getD (.slice none 0 0) = u) : W.ownsRow w.heap.size 59 2 u (lookR ps s).length (pairCells (lookR ps s)) := by
  cases hl : lookF ps s with
  | none =>
    rw [hl] at hu
    rw [lookR_none (lookF_none.1 hl), ← hu]
    exact World.ownsRow_nil _ _ _ _
  | some v =>
    rw [hl] at hu
    have := h.2.2.2.2.1.2.2.1 _ (look_some hl)
    rw [← hu]
    exact this
theorem SV.mapOn (h : SV w W nv L x ps) {u : Value} {n : Nat} {ys : List Value} (hU : W.ownsRow w.heap.size 59 2 u n ys) (hg : W.grownBy W' u.ownBlock) : MapS W' (w.heap.size + 4) (L.length + ps.length) ps.length (lookF ps) := h.2.2.2.2.1.1.kept hg fun e => own_map h.2.2.2.2.1.1 hU e.symm
/-- .. and put into its list. -/
theorem SV.put (h : SV w W nv L x ps) {u v : Value} {xs : List PKey} {n m' : Nat} {ys : List Value} (hin : (lookF ps x.1).isSome = true) (hu : (lookF ps x.1).getD (.slice none 0 0) = u) (hU : W.ownsRow w.heap.size 59 2 u n ys) (hg : W.grownBy W' u.ownBlock)
    (hown : W'.ownsRow w.heap.size 59 2 v xs.length (pairCells xs)) (hv : v.ownBlock = u.ownBlock ∨ v.ownBlock = some W.heap.size) (hM : MapS W2 (w.heap.size + 4) (L.length + ps.length + 1) m' (putMF (lookF ps) x.1 v)) (hm' : m' = if (lookF ps x.1).isSome then ps.length else ps.length + 1) (hg2 : W'.grownBy W2 (some (w.heap.size + 4))) :
    SS w W2 nv (L ++ [x]) (updM ps x.1 v xs) := by
  have hM1 := h.mapOn hU hg
  obtain ⟨h1, h2, h3, ⟨m, h4⟩, h5, h6⟩ := h
  have b1 := h1.grown hg h1.size (fun k hk => (hU.lt k hk).1)
  have a2 := blk_stays h2 hU (by decide) hg
  have a3 := blk_stays h3 hU (by decide) hg
  have a4 := h4.kept hg (fun e => own_map h4 hU e.symm)
  have a6 := own_stays h6 hU (by decide) hg
  have hlen : (updM ps x.1 v xs).length = ps.length := by rw [updM_len, if_pos hin]
  have hkeys : (updM ps x.1 v xs).map (fun p => p.1) = ps.map (fun p => p.1) := by rw [updM_keys, if_pos hin]
  refine ⟨b1.grown hg2 b1.size (fun k hk => by cases hk; omega), a2.grown hg2 (fun e => by have := Option.some.inj e; omega), a3.grown hg2 (fun e => by have := Option.some.inj e; omega), ⟨m, a4.kept hg2 (fun e => by have := Option.some.inj e; omega)⟩, ?_, ?_⟩
  · rw [hlen, List.length_append, List.length_singleton, Nat.add_right_comm]
    exact h5.put (fun p hp => own_map h5.1 (h5.2.2.1 p hp)) hu hg hown hv hM hm' hg2 (own_map hM1 hown)
  · rw [hlen, hkeys]
    exact own_stays2 a6 hg2 fun k hk e => own_map hM1 a6 (by rw [hk]; exact e.symm)
end
end Go.Proofs.YtfpepdjffehbcaaGreat
