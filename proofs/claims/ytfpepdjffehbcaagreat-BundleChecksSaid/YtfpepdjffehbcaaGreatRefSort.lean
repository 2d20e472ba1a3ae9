/-
  The walk of the document's Sort of a bundle. Condition: few Books, few values.
-/
import Derived.Test.YtfpepdjffehbcaaGreatBunSort
import Derived.Test.YtfpepdjffehbcaaGreatRefCheck
import Derived.Test.YtfpepdjffehbcaaGreatRef22C
set_option linter.unusedVariables false
set_option linter.unusedSimpArgs false
namespace Go.Proofs.YtfpepdjffehbcaaGreat
open Go.RowKit

theorem txts_map {κ : Type} {P : Program} {k : TypeId} {kl : κ → Lit} {ok : κ → Prop} {w w' : World} {b n m : Nat} {f : κ → Option Value} {v : Value} {l : List ByteArray} (hm : MapG P k kl ok w b n m f) (h : Txts w w.heap.size v l) (hO : Only b w w') : Txts w' w'.heap.size v l := by
  obtain ⟨A, c, rfl, h1, h2, h3⟩ := h
  exact ⟨A, c, rfl, h1, h2, (reads_map hm h3 hO (Nat.le_refl _)).more hO.size⟩
theorem bun_map {κ : Type} {P : Program} {k : TypeId} {kl : κ → Lit} {ok : κ → Prop} {w w' : World} {b n m base : Nat} {f : κ → Option Value} {v : Value} {l : List PStep} {vs : List Value} (hm : MapG P k kl ok w b n m f) (h : BunOwn w base v l vs) (hg : w.grownBy w' (some b)) : BunOwn w' base v l vs :=
  ⟨own_stays2 h.1 hg fun k hk e => own_map hm h.1 (by rw [hk]; exact e.symm), h.2.1, fun i c ku hi hj => own_stays2 (h.2.2 i c ku hi hj) hg fun k hk e => own_map hm (h.2.2 i c ku hi hj) (by rw [hk]; exact e.symm)⟩
/-- The state of the document's Sort: the results' blocks, the bundle so far in its variable; what was there behind the first loop (w6) stays. -/
def RS (w w6 W : World) (go : Nat) (nl u : Value) (out : List PStep) (us : List Value) : Prop :=
  Below w.heap.size w W ∧ Blk W (w.heap.size + 1) 24 #[.slice none 0 0] ∧ Blk W (w.heap.size + 2) 34 #[.int .i64 0, .int .i64 0] ∧ Blk W w.heap.size 24 #[nl] ∧ (w.heap.size + 2 < w6.heap.size ∧ w6.heap.size ≤ go) ∧ Blk W go 24 #[u] ∧ BunOwn W w6.heap.size u out us ∧ Below w6.heap.size w6 W
section
variable {w w6 W W' : World} {go : Nat} {nl u : Value} {out : List PStep} {us : List Value}
theorem RS.on (h : RS w w6 W go nl u out us) (hb : Below W.heap.size W W') : RS w w6 W' go nl u out us := by
  obtain ⟨h1, h2, h3, h4, h5, h6, h7, h8⟩ := h
  exact ⟨h1.trans (hb.mono h1.size), h2.below hb h2.lt, h3.below hb h3.lt, h4.below hb h4.lt, h5, h6.below hb h6.lt, h7.on hb, h8.trans (hb.mono h8.size)⟩
theorem RS.map {κ : Type} {P : Program} {k : TypeId} {kl : κ → Lit} {ok : κ → Prop} {b n m : Nat} {f : κ → Option Value} (h : RS w w6 W go nl u out us) (hm : MapG P k kl ok W b n m f) (hw : w6.heap.size ≤ b) (hg : W.grownBy W' (some b)) : RS w w6 W' go nl u out us := by
  obtain ⟨h1, h2, h3, h4, h5, h6, h7, h8⟩ := h
  exact ⟨h1.grown hg h1.size (fun k hk => by cases hk; omega), h2.grown hg (fun e => blk_map hm h2 (Option.some.inj e).symm), h3.grown hg (fun e => blk_map hm h3 (Option.some.inj e).symm), h4.grown hg (fun e => blk_map hm h4 (Option.some.inj e).symm), h5, h6.grown hg (fun e => blk_map hm h6 (Option.some.inj e).symm), bun_map hm h7 hg, h8.grown hg h8.size (fun k hk => by cases hk; exact hw)⟩
/-- A Book is put behind the others. -/
theorem RS.push (h : RS w w6 W go nl u out us) {b : PStep} {kv u' : Value} {n : Nat} (hn : out.length = n) (hk : W.ownsRow w6.heap.size 59 2 kv b.2.length (pairCells b.2)) (hown : W'.ownsRow w6.heap.size 56 2 u' (n + 1) (stepCells out us ++ [.string b.1, kv])) (hg : W.grownBy W' u.ownBlock) :
    RS w w6 (W'.setCell ⟨go, 0, none⟩ u') go nl u' (out ++ [b]) (us ++ [kv]) ∧ Blk W' go 24 #[u] := by
  obtain ⟨h1, h2, h3, h4, ⟨h5, h9⟩, h6, h7, h8⟩ := h
  have hr := h7.1
  have b1 := h1.grown hg h1.size (fun k hk => by have := (hr.lt k hk).1; omega)
  have b8 := h8.grown hg h8.size (fun k hk => (hr.lt k hk).1)
  have b6 := blk_stays h6 hr (by decide) hg
  have hp := h7.push b hn hk hown hg
  exact ⟨⟨b1.setCell (by simp; omega) _, (blk_stays h2 hr (by decide) hg).far (by simp; omega) _, (blk_stays h3 hr (by decide) hg).far (by simp; omega) _, (blk_stays h4 hr (by decide) hg).far (by simp; omega) _, ⟨h5, h9⟩, b6.set_ 0 u', bunown_set b6 hp, b8.setCell (by simpa using h9) _⟩, b6⟩
end
theorem names_mem {l : List PStep} {g : ByteArray} (h : g ∈ poolL bl (l.map Prod.fst)) : ∃ b ∈ l, b.1 = g := by
  rw [poolL_mem] at h
  obtain ⟨b, hb, e⟩ := List.mem_map.1 h
  exact ⟨b, hb, e⟩
/-- The state of a name. -/
def NS (w w6 W : World) (go : Nat) (nl u : Value) (out : List PStep) (us : List Value) (bm cap : Nat) (pv : Value) (L : List PKey) : Prop :=
  RS w w6 W go nl u out us ∧ w6.heap.size ≤ bm ∧ (∃ m, MapS W bm cap m (saidPF L)) ∧ Txts W W.heap.size pv (poolL bl (L.map Prod.fst))
section
variable {w w6 W W' : World} {go : Nat} {nl u : Value} {out : List PStep} {us : List Value} {bm cap m' : Nat} {pv : Value} {L : List PKey}
theorem NS.on (h : NS w w6 W go nl u out us bm cap pv L) (hb : Below W.heap.size W W') : NS w w6 W' go nl u out us bm cap pv L := by
  obtain ⟨h1, h3, ⟨m, h4⟩, h5⟩ := h
  exact ⟨h1.on hb, h3, ⟨m, h4.on hb⟩, h5.on hb⟩
theorem NS.say {v : PKey} (h : NS w w6 W go nl u out us bm cap pv L) (hs : saidPF L v.1 = none) (hM : MapS W' bm (cap + 1) m' (putMF (saidPF L) v.1 (.string v.2))) (hg : W.grownBy W' (some bm)) :
    RS w w6 W' go nl u out us ∧ w6.heap.size ≤ bm ∧ (∃ m, MapS W' bm (cap + 1) m (saidPF (L ++ [v]))) ∧ Txts W' W'.heap.size pv (poolL bl (L.map Prod.fst)) := by
  obtain ⟨h1, h3, ⟨m, h4⟩, h5⟩ := h
  exact ⟨h1.map h4 h3 hg, h3, ⟨m', by rw [← saidPF_put hs]; exact hM⟩, txts_map h4 h5 hg⟩
end
theorem book_next {L : List PKey} {p : Nat} {x : ByteArray} (hx : (poolL bl (L.map Prod.fst))[p]? = some x) : pairCells ((bookP L).take (p + 1)) = pairCells ((bookP L).take p) ++ [.string x, .string (saidP L x)] := by
  have h1 : (bookP L)[p]? = some (x, saidP L x) := by
    unfold bookP
    rw [List.getElem?_map, hx]
    rfl
  rw [List.take_add_one, h1]
  simp [pairCells]
theorem saidP_size {l : List PStep} (h : SrtIn l) {g p : ByteArray} : (saidP (valsOf l g) p).size ≤ 140737488355328 := by
  unfold saidP
  cases hf : (valsOf l g).find? fun x => decide (x.1 = p) with
  | none => simp
  | some x => exact (valsOf_size h x (List.mem_of_find?_eq_some hf)).2
theorem rsort_result {tmps : Array Value} {w : World} {g g' : Nat} {u : Value} {x y : Int} (hB : Blk w g 24 #[u]) (hp : tmps.getD 2 undef = .pointer (some ⟨g, 0, none⟩)) (hB' : Blk w g' 34 #[.int .i64 x, .int .i64 y]) (hq : tmps.getD 3 undef = .pointer (some ⟨g', 0, none⟩)) :
    (results Tryz.f25 tmps).run Tryz.prog w = .ok (.tuple #[.agg #[u], .agg #[.int .i64 x, .int .i64 y]]) w :=
  results_row_row Tryz.results25 tmps w g g' 24 34 _ _ _ _ hp hB hq hB' Tryz.underlying24 rfl bundle_size Tryz.underlying34 rfl fault_size
-- BEGIN rsort
set_option maxHeartbeats 32000000 in
set_option maxRecDepth 100000 in
theorem rsort_any (v : Value) (l : List PStep) (vs : List Value) (w : World) (h : StepsR w v l vs) (hin : SrtIn l) (hfl : (flatB l).length ≤ 1000000) :
    Calls Tryz.prog 25 #[.agg #[v]] w (BSortPost l w) := by
  have HS := Lib.hid h
  have HIN := Lib.hid hin
  have HFL := Lib.hid hfl
  obtain ⟨A, c, rfl, -, hc2, -, -, -⟩ := h
  unfold maxLen at hc2
  obtain ⟨n, hN⟩ : ∃ n, l.length = n := ⟨_, rfl⟩
  have HN := Lib.hid hN
  have hn1 : n ≤ 1000 := by rw [← hN]; exact hin.1
  rw [hN] at HS ⊢
  clear hN hin hfl
  have hn2 : (n : Int) ≤ 1000 := by omega
  have HFAR := Lib.hid (fun (i : Nat) (b : PStep) (hb : l[i]? = some b) => books_far HS.out hb)
  obtain ⟨i1, hi1, hy0, hy1, hy2⟩ := info_parts valueI
  obtain ⟨i2, hi2, hx0, hx1, hx2⟩ := info_parts bookI
  obtain ⟨w3, hw3⟩ : ∃ w3, ((w.alloc (.cells #[.slice A n c] 24)).alloc (.cells #[.slice none 0 0] 24)).alloc (.cells #[.int .i64 0, .int .i64 0] 34) = w3 := ⟨_, rfl⟩
  have HW3 := Lib.hid hw3
  have HR0 := Lib.hid (show Below w.heap.size w w3 ∧ Blk w3 (w.heap.size + 1) 24 #[.slice none 0 0] ∧ Blk w3 (w.heap.size + 2) 34 #[.int .i64 0, .int .i64 0] ∧ Blk w3 w.heap.size 24 #[.slice A n c] from by
    rw [← hw3]
    refine ⟨((Below.refl w.heap.size w).alloc (Nat.le_refl _) _).alloc (by simp) _ |>.alloc (by simp; omega) _, ?_, ?_, ((Blk.new w 24 #[.slice A n c]).alloc _).alloc _⟩
    · have := (Blk.new (w.alloc (.cells #[.slice A n c] 24)) 24 #[.slice none 0 0]).alloc (.cells #[.int .i64 0, .int .i64 0] 34)
      simpa only [World.size_alloc] using this
    · have := Blk.new ((w.alloc (.cells #[.slice A n c] 24)).alloc (.cells #[.slice none 0 0] 24)) 34 #[.int .i64 0, .int .i64 0]
      simpa only [World.size_alloc] using this)
  have hw3s : w3.heap.size = w.heap.size + 1 + 1 + 1 := by rw [← hw3]; simp
  have hmm := @run_makeMap Tryz.prog
  have k0 : w3.cell? ⟨w.heap.size, 0, none⟩ = some (.slice A n c) := HR0.out.2.2.2.cell 0
  clear hw3
  go_enter Tryz.func25, Tryz.ntmps25
  go_upto_region 2 with (fail)
  rw [HW3.out]
  go_wp2
  clear k0
  -- <<M1
  go_loopw [4, 26] (fun nv iv W => ∃ (i m : Nat) (A' : Option Addr) (c' : Nat), iv = .int .i64 (i : Int) ∧ i ≤ n ∧ nv = .slice A' m c' ∧ Txts W W.heap.size (.slice A' m c') (poolL bl ((l.take i).map Prod.fst)) ∧ Below w3.heap.size w3 W) (fun _ iv _ => n - (Lib.intOf iv).toNat)
  case atStart => exact ⟨0, 0, none, 0, rfl, Nat.zero_le _, rfl, ⟨none, 0, rfl, Nat.le_refl _, by simp [maxLen], ⟨rfl, fun hp => absurd hp (Nat.lt_irrefl _)⟩⟩, Below.refl _ _⟩
  case round =>
    obtain ⟨i, m, A', c', rfl, hi, rfl, hT, hB⟩ := hrel
    have HT := Lib.hid hT
    have HB := Lib.hid hB
    clear hT hB
    by_cases hlt : i < n
    · have hq : (i : Int) < (n : Int) := by omega
      obtain ⟨⟨nm, vl⟩, hb⟩ : ∃ b, l[i]? = some b := ⟨_, List.getElem?_eq_getElem (by rw [HN.out]; exact hlt)⟩
      obtain ⟨b1, o1, Ak, ck, rfl, hfar⟩ := HFAR.out i _ hb
      obtain ⟨z0, z1, -⟩ := hfar wr (HR0.out.1.trans (HB.out.mono HR0.out.1.size))
      have HBB := Lib.hid hb
      simp only at z0 z1
      obtain ⟨mk, hmk⟩ : ∃ mk, vl.length = mk := ⟨_, rfl⟩
      rw [hmk] at z1
      have hba := (Below.refl wr.heap.size wr).alloc (Nat.le_refl _) (.cells #[.string nm, .slice Ak mk ck] 56)
      have HB6 := Lib.hid (HB.out.trans (hba.mono HB.out.size))
      have y0 : (wr.alloc (.cells #[.string nm, .slice Ak mk ck] 56)).cell? ⟨wr.heap.size, 0, none⟩ = some (.string nm) := (Blk.new wr _ _).cell 0
      have HPU := Lib.hid (rput_say (s := nm) (HT.out.on hba) (by
        have h1 := poolL_len (lt := bl) ((l.take i).map Prod.fst)
        rw [List.length_map, List.length_take] at h1
        omega))
      rw [pool_next] at HPU
      clear hb hmk hfar hba
      go_wp2_with fail
      refine HPU.out.mono ?_
      rintro en w7 ⟨A7, m7, c7, rfl, hT7, hb7⟩
      have HT7 := Lib.hid hT7
      have HB7 := Lib.hid (HB6.out.trans (hb7.mono HB6.out.size))
      clear hT7 hb7 y0 z0 z1
      go_wp2
      go_roundw
      case rel => exact ⟨i + 1, m7, A7, c7, by go_num, hlt, rfl, by rw [List.take_add_one, HBB.out, List.map_append]; exact HT7.out, HB7.out⟩
      case measure => simp [Lib.intOf]; omega
    · obtain rfl : i = n := by omega
      have hq : ¬ (i : Int) < (i : Int) := by omega
      have htk : l.take i = l := List.take_of_length_le (by rw [HN.out]; exact Nat.le_refl _)
      rw [htk] at HT
      clear htk
      obtain ⟨names, hnames⟩ : ∃ names, poolL bl (l.map Prod.fst) = names := ⟨_, rfl⟩
      have HNA := Lib.hid hnames
      rw [hnames] at HT
      have hml : names.length = m := by
        obtain ⟨_, _, e1, -⟩ := HT.out
        cases e1
        rfl
      have HML := Lib.hid hml
      have hm1 : m ≤ 1000 := by
        have h1 := poolL_len (lt := bl) (l.map Prod.fst)
        rw [List.length_map, hnames, HN.out] at h1
        omega
      have hm2 : (m : Int) ≤ 1000 := by omega
      have hba := (Below.refl wr.heap.size wr).alloc (Nat.le_refl _) (.cells #[.slice none 0 0] 24)
      have hbw := HB.out.trans (hba.mono HB.out.size)
      have HR7 := Lib.hid (show RS w wr (wr.alloc (.cells #[.slice none 0 0] 24)) wr.heap.size (.slice A i c) (.slice none 0 0) [] [] from
        ⟨HR0.out.1.trans (hbw.mono HR0.out.1.size), HR0.out.2.1.below hbw HR0.out.2.1.lt, HR0.out.2.2.1.below hbw HR0.out.2.2.1.lt, HR0.out.2.2.2.below hbw HR0.out.2.2.2.lt, ⟨by have := HB.out.size; omega, Nat.le_refl _⟩, Blk.new wr _ _, BunOwn.nil _ _, hba⟩)
      clear hnames hml hba hbw HB
      obtain ⟨w6, hw6⟩ : ∃ w6, wr = w6 := ⟨_, rfl⟩
      rw [hw6] at HR7 HT ⊢
      clear hw6
      go_upto_region 8 with (fail)
      generalize w6.alloc (.cells #[.slice none 0 0] 24) = w7 at *
      obtain ⟨go, hgo⟩ : ∃ go, go = w6.heap.size := ⟨_, rfl⟩
      rw [← hgo] at HR7 ⊢
      clear hgo HR0
      go_wp2
      -- <<M2
      go_loopw [8, 38] (fun bv qv W => ∃ (q : Nat) (bad : Int) (u : Value) (us : List Value), bv = .int .i64 bad ∧ qv = .int .i64 (q : Int) ∧ q ≤ m ∧ RS w w6 W go (.slice A i c) u ((names.take q).map fun g => (g, bookP (valsOf l g))) us ∧ BadOk l bad ∧ ∀ g ∈ names.take q, NameOk l g l.length bad) (fun _ qv _ => m - (Lib.intOf qv).toNat)
      case atStart => exact ⟨0, -1, _, [], rfl, rfl, Nat.zero_le _, HR7.out, .inl rfl, fun g hg => by cases hg⟩
      case round =>
        clear HR7
        obtain ⟨q, bad, u, us, rfl, rfl, hq, hR, hbo, hno⟩ := hrel
        have HR := Lib.hid hR
        have HBO := Lib.hid hbo
        have HNO := Lib.hid hno
        clear hR hbo hno
        by_cases hqm : q < m
        · -- <<e1
          have hq2 : (q : Int) < (m : Int) := by omega
          obtain ⟨g, hg⟩ := at_lt (l := names) (p := q) (by rw [HML.out]; exact hqm)
          have HGG := Lib.hid hg
          obtain ⟨A'', c'', ex, -, -, hRx⟩ := HT.out
          rw [HML.out] at ex hRx
          cases ex
          obtain ⟨q1, p1, rfl, hq1, hcl1⟩ := hRx.spot (by omega) (by omega)
          have r0 : wr.cell? ⟨q1, p1 + q, none⟩ = some (.string g) := (HR.out.2.2.2.2.2.2.2.cell (p := ⟨q1, p1 + q, none⟩) hq1).trans (hcl1 _ _ (str_at hg))
          have hba := (Below.refl wr.heap.size wr).alloc (Nat.le_refl _) (.map #[] 0)
          have HN8 := Lib.hid (show NS w w6 (wr.alloc (.map #[] 0)) go (.slice A i c) u ((names.take q).map fun g => (g, bookP (valsOf l g))) us wr.heap.size 0 (.slice none 0 0) (valsOf (l.take 0) g) from
            ⟨HR.out.on hba, HR.out.2.2.2.2.2.2.2.size, ⟨0, MapG.made wr Tryz.prog 9 strL strOk⟩, ⟨none, 0, rfl, Nat.le_refl _, by simp [maxLen], ⟨rfl, fun hp => absurd hp (Nat.lt_irrefl _)⟩⟩⟩)
          have k0 : (wr.alloc (.map #[] 0)).cell? ⟨w.heap.size, 0, none⟩ = some (.slice A i c) := (HR.out.2.2.2.1.alloc _).cell 0
          clear hg hRx hcl1 hba HR
          go_upto_region 14 with (fail)
          generalize wr.alloc (.map #[] 0) = w8 at *
          obtain ⟨bm, hbm⟩ : ∃ bm, wr.heap.size = bm := ⟨_, rfl⟩
          rw [hbm] at HN8 ⊢
          clear hbm r0
          obtain ⟨OT, hOT⟩ : ∃ OT, ((names.take q).map fun g => (g, bookP (valsOf l g))) = OT := ⟨_, rfl⟩
          have HOT := Lib.hid hOT
          rw [hOT] at HN8
          clear hOT
          go_wp2
          clear k0
          -- <<M3
          go_loopw [8, 11, 46] (fun bv pv iv W => ∃ (j : Nat) (bad : Int) (mp : Nat) (Ap : Option Addr) (cp : Nat), bv = .int .i64 bad ∧ pv = .slice Ap mp cp ∧ iv = .int .i64 (j : Int) ∧ j ≤ i ∧ NS w w6 W go (.slice A i c) u OT us bm (valsOf (l.take j) g).length (.slice Ap mp cp) (valsOf (l.take j) g) ∧ BadOk l bad ∧ (∀ g ∈ names.take q, NameOk l g l.length bad) ∧ NameOk l g j bad) (fun _ _ iv _ => i - (Lib.intOf iv).toNat)
          case atStart => exact ⟨0, bad, 0, none, 0, rfl, rfl, rfl, Nat.zero_le _, HN8.out, HBO.out, HNO.out, NameOk.start l g bad⟩
          case round =>
            clear HN8 HBO HNO
            obtain ⟨j, bad, mp, Ap, cp, rfl, rfl, rfl, hj, hN8, hbo, hno, hnm⟩ := hrel
            have HNN := Lib.hid hN8
            have HBO := Lib.hid hbo
            have HNO := Lib.hid hno
            have HNM := Lib.hid hnm
            clear hN8 hbo hno hnm
            by_cases hji : j < i
            · -- <<e2
              have hq3 : (j : Int) < (i : Int) := by omega
              obtain ⟨⟨nm, vl⟩, hb⟩ : ∃ b, l[j]? = some b := ⟨_, List.getElem?_eq_getElem (by rw [HN.out]; exact hji)⟩
              obtain ⟨b1, o1, Ak, ck, rfl, hfar⟩ := HFAR.out j _ hb
              obtain ⟨z0, z1, -⟩ := hfar wr HNN.out.1.1
              have HBB := Lib.hid hb
              have HIB := Lib.hid (HIN.out.2.2 _ (List.mem_of_getElem? hb))
              have HKV := Lib.hid (show ∀ W, Below w.heap.size w W → KeysAt W W.heap.size (.slice Ak vl.length ck) vl from fun W hW => (hfar W hW).2.2)
              simp only at z0 z1 HIB
              obtain ⟨mk, hmk⟩ : ∃ mk, vl.length = mk := ⟨_, rfl⟩
              have HMK := Lib.hid hmk
              rw [hmk] at z1 HKV
              have hmk1 : mk ≤ 1000000 := by
                have h1 := heard_len (j := vl.length) hb
                unfold heardB at h1
                rw [List.length_append, List.length_map, List.take_length, hmk] at h1
                have := HFL.out
                omega
              have hmk2 : (mk : Int) ≤ 1000000 := by omega
              have hba := (Below.refl wr.heap.size wr).alloc (Nat.le_refl _) (.cells #[.string nm, .slice Ak mk ck] 56)
              have HN9 := Lib.hid (HNN.out.on hba)
              have HG9 := Lib.hid (Blk.new wr 56 #[.string nm, .slice Ak mk ck])
              clear hb hmk hfar hba HNN
              go_upto_region 17 with (fail)
              generalize wr.alloc (.cells #[.string nm, .slice Ak mk ck] 56) = w9 at *
              obtain ⟨gk, hgk⟩ : ∃ gk, wr.heap.size = gk := ⟨_, rfl⟩
              rw [hgk] at HG9 ⊢
              clear hgk z0 z1
              have y0 : w9.cell? ⟨gk, 0, none⟩ = some (.string nm) := HG9.out.cell 0
              have y1 : w9.cell? ⟨gk, 1, none⟩ = some (.slice Ak mk ck) := HG9.out.cell 1
              have hbq := ba_beqB nm g
              by_cases hne : nm = g
              · -- <<e3
                rw [decide_eq_true hne] at hbq
                have HNE := Lib.hid hne
                clear hne
                go_wp2
                clear y0 y1
                -- <<M4
                go_loopw [8, 11, 58] (fun bv pv kv W => ∃ (k : Nat) (bad : Int) (mp : Nat) (Ap : Option Addr) (cp : Nat), bv = .int .i64 bad ∧ pv = .slice Ap mp cp ∧ kv = .int .i64 (k : Int) ∧ k ≤ mk ∧ NS w w6 W go (.slice (some ⟨b1, o1, none⟩) i c) u OT us bm (nameH l g j (nm, vl) k).length (.slice Ap mp cp) (nameH l g j (nm, vl) k) ∧ BadOk l bad ∧ (∀ g ∈ names.take q, NameOk l g l.length bad) ∧ NameOk l g j bad ∧ (bad < 0 ∨ (j : Int) < bad → ConsV (nameH l g j (nm, vl) k))) (fun _ _ kv _ => mk - (Lib.intOf kv).toNat)
                case atStart => exact ⟨0, bad, mp, Ap, cp, rfl, rfl, rfl, Nat.zero_le _, by rw [nameH_start]; exact HN9.out, HBO.out, HNO.out, HNM.out, fun h => by rw [nameH_start]; exact HNM.out j (Nat.le_refl _) (h.imp id fun h => by omega)⟩
                case round =>
                  clear HN9 HG9 HBO HNO HNM hbq
                  obtain ⟨k, bad, mp, Ap, cp, rfl, rfl, rfl, hk, hN8, hbo, hno, hnm, hcv⟩ := hrel
                  have HNN := Lib.hid hN8
                  have HBO := Lib.hid hbo
                  have HNO := Lib.hid hno
                  have HNM := Lib.hid hnm
                  have HCV := Lib.hid hcv
                  clear hN8 hbo hno hnm hcv
                  by_cases hkm : k < mk
                  · -- <<e4
                    have hq4 : (k : Int) < (mk : Int) := by omega
                    obtain ⟨⟨xp, xt⟩, hx⟩ : ∃ x, vl[k]? = some x := ⟨_, List.getElem?_eq_getElem (by rw [HMK.out]; exact hkm)⟩
                    obtain ⟨bv, ov, rfl, hbv, z0, z1⟩ := keys_spot (HKV.out wr HNN.out.1.1) hx
                    have HIX := Lib.hid (HIB.out.2 _ (List.mem_of_getElem? hx))
                    simp only at z0 z1 HIX
                    have HNX := Lib.hid (nameH_next (l := l) (n := g) (i := j) (b := (nm, vl)) hx)
                    have HSUB := Lib.hid (fun x hx => nameH_sub (j := k + 1) HBB.out HNE.out x hx)
                    have hlL : (nameH l g j (nm, vl) k).length ≤ 1000000 := by
                      have h1 := valsOf_le (l.take (j + 1)) g
                      rw [← nameH_end HBB.out HNE.out] at h1
                      have h2 := flat_take_le l (j + 1)
                      have h3 := HFL.out
                      unfold nameH at h1 ⊢
                      rw [List.length_append] at h1 ⊢
                      rw [List.length_take] at h1 ⊢
                      omega
                    have hso : strOk xp := by have h1 := HIX.out.1; unfold strOk maxLen; omega
                    have HSO := Lib.hid hso
                    obtain ⟨L, hL⟩ : ∃ L, nameH l g j (nm, vl) k = L := ⟨_, rfl⟩
                    rw [hL] at HNN HCV HNX hlL
                    rw [HNX.out] at HSUB
                    clear hx hL
                    have hba := (Below.refl wr.heap.size wr).alloc (Nat.le_refl _) (.cells #[.string xp, .string xt] 59)
                    have HN9 := Lib.hid (HNN.out.on hba)
                    have HG9 := Lib.hid (Blk.new wr 59 #[.string xp, .string xt])
                    clear hba HNN
                    go_upto_region 21 with (fail)
                    generalize wr.alloc (.cells #[.string xp, .string xt] 59) = w9 at *
                    obtain ⟨gx, hgx⟩ : ∃ gx, wr.heap.size = gx := ⟨_, rfl⟩
                    rw [hgx] at HG9 ⊢
                    clear hgx z0 z1
                    have n0 : w9.cell? ⟨gx, 0, none⟩ = some (.string xp) := HG9.out.cell 0
                    have n1 : w9.cell? ⟨gx, 1, none⟩ = some (.string xt) := HG9.out.cell 1
                    obtain ⟨ms, hms⟩ := HN9.out.2.2.1
                    have HMS := Lib.hid hms
                    have hlk := hms.look_ok law_str Tryz.underlying96 (zero_str w9) hso (key_str hso)
                    clear hms hso
                    have HPL := Lib.hid (show (poolL bl (L.map Prod.fst)).length ≤ 1000000 from by
                      have h1 := poolL_len (lt := bl) (L.map Prod.fst)
                      rw [List.length_map] at h1
                      omega)
                    have hmp : ∀ xs : List PKey, xs.map Prod.fst ++ [xp] = (xs ++ [(xp, xt)]).map Prod.fst := fun xs => by simp
                    rcases Option.eq_none_or_eq_some (saidPF L xp) with hsf | ⟨tv, hsf⟩
                    · -- <<f1
                      rw [hsf] at hlk
                      simp only [Option.getD_none, Option.isSome_none] at hlk
                      obtain ⟨w10, hrun, hM10, hg10⟩ := HMS.out.store law_str Tryz.underlying96 (by simp only [maxLen]; omega) strL_inj HSO.out (key_str HSO.out) (.string xt)
                      have HN10 := Lib.hid (HN9.out.say (v := (xp, xt)) hsf hM10 hg10)
                      have HG10 := Lib.hid (HG9.out.grown hg10 (fun e => blk_map HMS.out HG9.out (Option.some.inj e).symm))
                      have n2 : w10.cell? ⟨gx, 0, none⟩ = some (.string xp) := HG10.out.cell 0
                      have HPU := Lib.hid (rput_say (s := xp) HN10.out.2.2.2 HPL.out)
                      rw [pool_next, hmp] at HPU
                      have HCV2 := Lib.hid (fun h => (HCV.out h).new (v := (xp, xt)) hsf)
                      clear hM10 hg10 hsf HN9 HG9 hmp
                      go_upto_region 26 with (fail)
                      clear hrun hlk n0 n1
                      go_wp2_with fail
                      refine HPU.out.mono ?_
                      rintro en w11 ⟨A11, m11, c11, rfl, hT11, hb11⟩
                      have HN11 := Lib.hid (show NS w w6 w11 go (.slice (some ⟨b1, o1, none⟩) i c) u OT us bm (L ++ [(xp, xt)]).length (.slice A11 m11 c11) (L ++ [(xp, xt)]) from by
                        obtain ⟨h1, h3, ⟨m4, h4⟩, h5⟩ := HN10.out
                        exact ⟨h1.on hb11, h3, ⟨m4, by rw [List.length_append]; exact h4.on hb11⟩, hT11⟩)
                      clear hT11 hb11 n2 HPU HN10 HG10 HMS
                      go_wp2
                      go_roundw
                      case rel => exact ⟨k + 1, bad, m11, A11, c11, rfl, rfl, by go_num, hkm, by rw [HNX.out]; exact HN11.out, HBO.out, HNO.out, HNM.out, by rw [HNX.out]; exact HCV2.out⟩
                      case measure => simp [Lib.intOf]; omega
                    · -- <<f2
                      obtain ⟨⟨xn, xs⟩, -, -, htv⟩ := saidPF_some hsf
                      simp only at htv
                      subst htv
                      rw [hsf] at hlk
                      simp only [Option.getD_some, Option.isSome_some] at hlk
                      have hbq := ba_beqB xs xt
                      have HPU := Lib.hid (rput_say (s := xp) HN9.out.2.2.2 HPL.out)
                      rw [pool_next, hmp] at HPU
                      have HND := Lib.hid (show ∀ (w11 : World) (v11 : Value), Below w9.heap.size w9 w11 → Txts w11 w11.heap.size v11 (poolL bl ((L ++ [(xp, xt)]).map Prod.fst)) → NS w w6 w11 go (.slice (some ⟨b1, o1, none⟩) i c) u OT us bm (L ++ [(xp, xt)]).length v11 (L ++ [(xp, xt)]) from fun w11 v11 hb hT => by
                        obtain ⟨h1, h3, ⟨m4, h4⟩, h5⟩ := HN9.out
                        exact ⟨h1.on hb, h3, ⟨m4, by rw [saidPF_skip hsf, List.length_append]; exact (h4.on hb).mono (by omega)⟩, hT⟩)
                      have HCS := Lib.hid (show xs = xt → ∀ h : bad < 0 ∨ (j : Int) < bad, ConsV (L ++ [(xp, xt)]) from fun e h => (HCV.out h).same (v := (xp, xt)) (by rw [← e]; exact hsf))
                      have HBD := Lib.hid (show xs ≠ xt → ¬ ConsB (l.take (j + 1)) from fun e h => consV_bad (v := (xp, xt)) hsf e (consV_sub HSUB.out (consV_B.1 h g)))
                      clear hsf hmp HMS HN9
                      have hfin : ∀ bad' : Int, (BadOk l bad' ∧ (∀ g ∈ names.take q, NameOk l g l.length bad') ∧ NameOk l g j bad' ∧ (bad' < 0 ∨ (j : Int) < bad' → ConsV (L ++ [(xp, xt)]))) → True := fun _ _ => trivial
                      clear hfin
                      by_cases he : xs = xt
                      · -- <<f3
                        rw [decide_eq_true he] at hbq
                        have HC2 := Lib.hid (HCS.out he)
                        clear he
                        go_wp2_with fail
                        refine HPU.out.mono ?_
                        rintro en w11 ⟨A11, m11, c11, rfl, hT11, hb11⟩
                        have HN11 := Lib.hid (HND.out w11 _ hb11 hT11)
                        clear hT11 hb11 n0 n1 hlk HPU
                        go_wp2
                        go_roundw
                        case rel => exact ⟨k + 1, bad, m11, A11, c11, rfl, rfl, by go_num, hkm, by rw [HNX.out]; exact HN11.out, HBO.out, HNO.out, HNM.out, by rw [HNX.out]; exact HC2.out⟩
                        case measure => simp [Lib.intOf]; omega
                      · -- <<f4
                        rw [decide_eq_false he] at hbq
                        have HB2 := Lib.hid (HBD.out he)
                        clear he
                        by_cases hb0 : bad < 0
                        · -- <<f5
                          go_wp2_with fail
                          refine HPU.out.mono ?_
                          rintro en w11 ⟨A11, m11, c11, rfl, hT11, hb11⟩
                          have HN11 := Lib.hid (HND.out w11 _ hb11 hT11)
                          clear hT11 hb11 n0 n1 hlk HPU
                          go_wp2
                          go_roundw
                          case rel => exact ⟨k + 1, (j : Int), m11, A11, c11, rfl, rfl, by go_num, hkm, by rw [HNX.out]; exact HN11.out, .inr ⟨j, rfl, by rw [HN.out]; exact hji, HB2.out⟩, fun g hg => (HNO.out g hg).less (.inl hb0), HNM.out.less (.inl hb0), fun h => by rcases h with h | h <;> omega⟩
                          case measure => simp [Lib.intOf]; omega
                        · by_cases hib : (j : Int) < bad
                          · -- <<f6
                            go_wp2_with fail
                            refine HPU.out.mono ?_
                            rintro en w11 ⟨A11, m11, c11, rfl, hT11, hb11⟩
                            have HN11 := Lib.hid (HND.out w11 _ hb11 hT11)
                            clear hT11 hb11 n0 n1 hlk HPU
                            go_wp2
                            go_roundw
                            case rel => exact ⟨k + 1, (j : Int), m11, A11, c11, rfl, rfl, by go_num, hkm, by rw [HNX.out]; exact HN11.out, .inr ⟨j, rfl, by rw [HN.out]; exact hji, HB2.out⟩, fun g hg => (HNO.out g hg).less (.inr hib), HNM.out.less (.inr hib), fun h => by rcases h with h | h <;> omega⟩
                            case measure => simp [Lib.intOf]; omega
                          · -- <<f7
                            go_wp2_with fail
                            refine HPU.out.mono ?_
                            rintro en w11 ⟨A11, m11, c11, rfl, hT11, hb11⟩
                            have HN11 := Lib.hid (HND.out w11 _ hb11 hT11)
                            clear hT11 hb11 n0 n1 hlk HPU
                            go_wp2
                            go_roundw
                            case rel => exact ⟨k + 1, bad, m11, A11, c11, rfl, rfl, by go_num, hkm, by rw [HNX.out]; exact HN11.out, HBO.out, HNO.out, HNM.out, fun h => by rcases h with h | h <;> omega⟩
                            case measure => simp [Lib.intOf]; omega
                    -- >>e4
                  · obtain rfl : mk = k := by omega
                    have hq4 : ¬ (mk : Int) < (mk : Int) := by omega
                    have hend := nameH_end HBB.out HNE.out
                    simp only at hend
                    rw [HMK.out] at hend
                    rw [hend] at HNN HCV
                    clear hend
                    go_wp2
                    go_roundw
                    case rel => exact ⟨j + 1, bad, mp, Ap, cp, rfl, rfl, by go_num, hji, HNN.out, HBO.out, HNO.out, HNM.out.next HCV.out⟩
                    case measure => simp [Lib.intOf]; omega
              · rw [decide_eq_false hne] at hbq
                have HEQ := Lib.hid (show valsOf (l.take (j + 1)) g = valsOf (l.take j) g from by rw [valsOf_next HBB.out, if_neg hne, List.append_nil])
                have HNM2 := Lib.hid (HNM.out.skip HBB.out hne)
                clear hne
                go_wp2
                go_roundw
                case rel => exact ⟨j + 1, bad, mp, Ap, cp, rfl, rfl, by go_num, hji, by rw [HEQ.out]; exact HN9.out, HBO.out, HNO.out, HNM2.out⟩
                case measure => simp [Lib.intOf]; omega
              -- >>e2
            · obtain rfl : i = j := by omega
              have hq3 : ¬ (i : Int) < (i : Int) := by omega
              have htk : l.take i = l := List.take_of_length_le (by rw [HN.out]; exact Nat.le_refl _)
              rw [htk] at HNN
              clear htk
              have HNM2 := Lib.hid (show NameOk l g l.length bad from by rw [HN.out]; exact HNM.out)
              obtain ⟨L, hL⟩ : ∃ L, valsOf l g = L := ⟨_, rfl⟩
              have HLE := Lib.hid hL
              have hll : L.length ≤ 1000000 := by
                have h1 := valsOf_le l g
                have h2 := HFL.out
                rw [hL] at h1
                omega
              rw [hL] at HNN
              clear hL
              have hmpl : (poolL bl (L.map Prod.fst)).length = mp := by
                obtain ⟨_, _, e1, -⟩ := HNN.out.2.2.2
                cases e1
                rfl
              have HMP := Lib.hid hmpl
              have hmp1 : mp ≤ 1000000 := by
                have h1 := poolL_len (lt := bl) (L.map Prod.fst)
                rw [List.length_map, hmpl] at h1
                omega
              have hmp2 : (mp : Int) ≤ 1000000 := by omega
              obtain ⟨w9, hw9⟩ : ∃ w9, wr = w9 := ⟨_, rfl⟩
              rw [hw9] at HNN ⊢
              have HZ9 := Lib.hid HNN.out.1.2.2.2.2.2.2.2.size
              have HB9 := Lib.hid ((Below.refl w9.heap.size w9).alloc (Nat.le_refl _) (.cells #[.string g, .slice none 0 0] 56))
              have HG9 := Lib.hid (Blk.new w9 56 #[.string g, .slice none 0 0])
              clear hmpl hw9 HNM
              go_upto_region 30 with (fail)
              generalize w9.alloc (.cells #[.string g, .slice none 0 0] 56) = w10 at *
              obtain ⟨gb, hgb⟩ : ∃ gb, gb = w9.heap.size := ⟨_, rfl⟩
              have HGB := Lib.hid hgb
              rw [← hgb] at HG9 ⊢
              clear hgb
              go_wp2
              -- <<M5
              go_loopw [103] (fun pv W => ∃ (p : Nat) (kv : Value), pv = .int .i64 (p : Int) ∧ p ≤ mp ∧ Below w9.heap.size w9 W ∧ Blk W gb 56 #[.string g, kv] ∧ W.ownsRow w9.heap.size 59 2 kv p (pairCells ((bookP L).take p))) (fun pv _ => mp - (Lib.intOf pv).toNat)
              case atStart => exact ⟨0, _, rfl, Nat.zero_le _, HB9.out, HG9.out, World.ownsRow_nil _ _ _ _⟩
              case round =>
                clear HB9 HG9
                obtain ⟨p, kv, pe, hp, hB, hG, hO⟩ := hrel
                subst pe
                have HB := Lib.hid hB
                have HG := Lib.hid hG
                obtain ⟨Av, cv, rfl, -, -, -⟩ := own_form hO
                have HO := Lib.hid hO
                clear hB hG hO
                have y1 : wr.cell? ⟨gb, 1, none⟩ = some (.slice Av p cv) := HG.out.cell 1
                by_cases hpm : p < mp
                · -- <<e5
                  have hq4 : (p : Int) < (mp : Int) := by omega
                  obtain ⟨x, hx⟩ := at_lt (l := poolL bl (L.map Prod.fst)) (p := p) (by rw [HMP.out]; exact hpm)
                  have HXX := Lib.hid hx
                  have hxm : x ∈ L.map Prod.fst := (poolL_mem _ _).1 (List.mem_of_getElem? hx)
                  obtain ⟨A2, c2, e2, -, -, hR2⟩ := HNN.out.2.2.2
                  rw [HMP.out] at e2 hR2
                  cases e2
                  obtain ⟨b2, o2, rfl, hb2, hcl2⟩ := hR2.spot (by omega) (by omega)
                  have r0 : wr.cell? ⟨b2, o2 + p, none⟩ = some (.string x) := (HB.out.cell (p := ⟨b2, o2 + p, none⟩) hb2).trans (hcl2 _ _ (str_at hx))
                  have hxs : strOk x := by
                    obtain ⟨v, hv, e⟩ := List.mem_map.1 hxm
                    rw [← HLE.out] at hv
                    have := (valsOf_size HIN.out v hv).1
                    rw [← e]
                    unfold strOk maxLen
                    omega
                  obtain ⟨ms, hms⟩ := HNN.out.2.2.1
                  have hlk := (hms.below HB.out hms.lt).look law_str Tryz.underlying96 (zero_str wr) hxs (key_str hxs)
                  rw [(saidPF_P hxm).1, Option.getD_some] at hlk
                  obtain ⟨tx, htx⟩ : ∃ tx, saidP L x = tx := ⟨_, rfl⟩
                  have HTX := Lib.hid htx
                  rw [htx] at hlk
                  clear hx hxm hR2 hcl2 hxs hms htx
                  have hba := (Below.refl wr.heap.size wr).alloc (Nat.le_refl _) (.cells #[.string x, .string tx] 59)
                  have HBA := Lib.hid (HB.out.trans (hba.mono HB.out.size))
                  have HGA := Lib.hid (HG.out.below hba HG.out.lt)
                  have HOA := Lib.hid (own_more HO.out hba)
                  have HRA := Lib.hid (reads_new wr #[.string x, .string tx] 59 2 1 rfl)
                  have HZA := Lib.hid HBA.out.size
                  have hgbl : gb < wr.heap.size := HG.out.lt
                  clear hba
                  go_wp2_with (at_builtin; go_must (refine wpList_append_any _ rfl (.tmp 108) (.tmp 114) _ rfl w9.heap.size 59 i1 _ 2 32 Tryz.underlying54 hi1 hy0 hy1 hy2 rfl (by omega) _ p _ rfl HOA.out (wr.heap.size + 1) (some ⟨wr.heap.size, 0, none⟩) 1 1 [.string x, .string tx] rfl HRA.out (by simp [Value.oneCell']) (by simp only [maxLen]; omega) (by omega) HZA.out ?_; intro v11 w11 hown11 hg11 hat11; obtain ⟨A11, c11, rfl, -, -, -⟩ := own_form hown11; have HG11 := Lib.hid (blk_stays HGA.out HOA.out (by decide) hg11); have HB11 := Lib.hid (HBA.out.grown hg11 HBA.out.size (fun k hk => (HOA.out.lt k hk).1)); have HO11 := Lib.hid (own_stays3 hown11 HG11.out (by decide) (grown_set w11 gb 1 (.slice A11 (p + 1) c11))); have u1 : w11.cell? ⟨gb, 1, none⟩ = some (.slice Av p cv) := HG11.out.cell 1; have u2 : w11.frozen? ⟨gb, 1, none⟩ = false := HG11.out.frozen 1; clear hown11 hg11 hat11))
                  go_roundw
                  case rel => exact ⟨p + 1, _, by go_num, hpm, HB11.out.setCell (by simp [HGB.out]) _, HG11.out.set_ 1 _, by rw [book_next HXX.out, HTX.out]; exact HO11.out⟩
                  case measure => simp [Lib.intOf]; omega
                  -- >>e5
                · obtain rfl : mp = p := by omega
                  have hq4 : ¬ (mp : Int) < (mp : Int) := by omega
                  have hbl : (bookP L).length = mp := by unfold bookP; rw [List.length_map]; exact HMP.out
                  have hR := HNN.out.1.on HB.out
                  have HRW := Lib.hid hR
                  obtain ⟨Au, cu, eu, -, -, -⟩ := own_form hR.2.2.2.2.2.2.1.1
                  have hol : OT.length = q := by rw [← HOT.out, List.length_map, List.length_take, HML.out]; omega
                  have HOL := Lib.hid hol
                  rw [hol] at eu
                  subst eu
                  have HKV := Lib.hid (show wr.ownsRow w6.heap.size 59 2 (.slice Av mp cv) (bookP L).length (pairCells (bookP L)) from by
                    have h := HO.out
                    rw [List.take_of_length_le (l := bookP L) (by rw [hbl]; exact Nat.le_refl _)] at h
                    rw [hbl]
                    exact own_base h HZ9.out)
                  have u0 : wr.cell? ⟨go, 0, none⟩ = some (.slice Au q cu) := hR.2.2.2.2.2.1.cell 0
                  have y0 : wr.cell? ⟨gb, 0, none⟩ = some (.string g) := HG.out.cell 0
                  have hba := (Below.refl wr.heap.size wr).alloc (Nat.le_refl _) (.cells #[.string g, .slice Av mp cv] 56)
                  have HRA := Lib.hid (hR.on hba)
                  have HRR := Lib.hid (reads_new wr #[.string g, .slice Av mp cv] 56 2 1 rfl)
                  have HZA := Lib.hid HRA.out.2.2.2.2.2.2.2.size
                  have HUR := Lib.hid (show (wr.alloc (.cells #[.string g, .slice Av mp cv] 56)).ownsRow w6.heap.size 56 2 (.slice Au q cu) q (stepCells OT us) from by
                    have h := HRA.out.2.2.2.2.2.2.1.1
                    rw [HOL.out] at h
                    exact h)
                  have HKA := Lib.hid (own_more HKV.out hba)
                  have hgol : go < wr.heap.size := hR.2.2.2.2.2.1.lt
                  clear hR hbl hba hol HB HG HO HKV
                  go_wp2_with (at_builtin; go_must (refine wpList_append_any _ rfl (.tmp 119) (.tmp 121) _ rfl w6.heap.size 56 i2 _ 2 40 Tryz.underlying22 hi2 hx0 hx1 hx2 rfl (by omega) _ q _ rfl HUR.out (wr.heap.size + 1) (some ⟨wr.heap.size, 0, none⟩) 1 1 [.string g, .slice Av mp cv] rfl HRR.out (by simp [Value.oneCell']) (by simp only [maxLen]; omega) (by omega) HZA.out ?_; intro v11 w11 hown11 hg11 hat11; obtain ⟨A11, c11, rfl, -, -, -⟩ := own_form hown11; have HQ := Lib.hid (HRA.out.push (b := (g, bookP L)) HOL.out HKA.out hown11 hg11); have u1 : w11.cell? ⟨go, 0, none⟩ = some (.slice Au q cu) := HQ.out.2.cell 0; have u2 : w11.frozen? ⟨go, 0, none⟩ = false := HQ.out.2.frozen 0; clear hown11 hg11 hat11))
                  go_roundw
                  case rel => exact ⟨q + 1, bad, _, _, rfl, by go_num, hqm, by rw [List.take_add_one, HGG.out, List.map_append, HOT.out]; rw [← HLE.out] at HQ; exact HQ.out.1, HBO.out, fun g2 hg2 => by
                    rw [List.take_add_one, HGG.out, List.mem_append] at hg2
                    rcases hg2 with hg2 | hg2
                    · exact HNO.out g2 hg2
                    · simp only [Option.toList_some, List.mem_singleton] at hg2
                      rw [hg2]
                      exact HNM2.out⟩
                  case measure => simp [Lib.intOf]; omega
          -- >>e1
        · obtain rfl : m = q := by omega
          have hq2 : ¬ (m : Int) < (m : Int) := by omega
          have htk : names.take m = names := List.take_of_length_le (by rw [HML.out]; exact Nat.le_refl _)
          rw [htk] at HNO
          have HTD := Lib.hid (sort_told HBO.out (fun g hg => HNO.out g (by rw [← HNA.out]; exact (poolL_mem _ _).2 hg)))
          have HOE := Lib.hid (show (names.take m).map (fun g => (g, bookP (valsOf l g))) = outP l from by rw [htk, ← HNA.out]; rfl)
          rw [HOE.out] at HR
          have HR1 := Lib.hid (show Below w.heap.size w wr ∧ Blk wr (w.heap.size + 1) 24 #[.slice none 0 0] ∧ Blk wr (w.heap.size + 2) 34 #[.int .i64 0, .int .i64 0] from ⟨HR.out.1, HR.out.2.1, HR.out.2.2.1⟩)
          have u1 : wr.cell? ⟨w.heap.size + 1, 0, none⟩ = some (.slice none 0 0) := HR1.out.2.1.cell 0
          have u2 : wr.frozen? ⟨w.heap.size + 1, 0, none⟩ = false := HR1.out.2.1.frozen 0
          have u3 : wr.cell? ⟨w.heap.size + 1 + 1, 0, none⟩ = some (.int .i64 0) := HR1.out.2.2.cell 0
          have u4 : wr.cell? ⟨w.heap.size + 1 + 1, 1, none⟩ = some (.int .i64 0) := HR1.out.2.2.cell 1
          have u5 : wr.frozen? ⟨w.heap.size + 1 + 1, 0, none⟩ = false := HR1.out.2.2.frozen 0
          have u6 : wr.frozen? ⟨w.heap.size + 1 + 1, 1, none⟩ = false := HR1.out.2.2.frozen 1
          clear htk HNO HBO
          rcases HTD.out with ⟨rfl, hcons⟩ | ⟨kb, rfl, hc1, hc2⟩
          · -- <<g1
            have HCO := Lib.hid hcons
            rw [outP_sort hcons] at HR
            clear hcons HTD HOE u1 u2 u3 u4 u5 u6 HR1
            obtain ⟨Au, cu, eu, -, -, -⟩ := own_form HR.out.2.2.2.2.2.2.1.1
            subst eu
            obtain ⟨no, hno⟩ : ∃ no, (sortOut l).length = no := ⟨_, rfl⟩
            obtain ⟨ce, hce⟩ : ∃ ce, (checkB (sortOut l)).1 = ce := ⟨_, rfl⟩
            obtain ⟨ca, hca⟩ : ∃ ca, (checkB (sortOut l)).2 = ca := ⟨_, rfl⟩
            have HCE := Lib.hid (And.intro hce hca)
            have HCK := Lib.hid (show Calls Tryz.prog 12 #[.agg #[.slice Au (sortOut l).length cu]] wr (fun e w' => e = .returned (.agg #[.int .i64 ce, .int .i64 ca]) ∧ Below wr.heap.size wr w') from by
              have hf := sortOut_fits HIN.out
              refine (rcheck_any _ _ _ wr HR.out.2.2.2.2.2.2.1.steps hf.1 hf.2.1 hf.2.2).mono ?_
              rintro e w' ⟨rfl, hb⟩
              exact ⟨by unfold faultW; rw [hce, hca], hb⟩)
            have HBN := Lib.hid (show BunOwn wr w.heap.size (.slice Au (sortOut l).length cu) (sortOut l) us from HR.out.2.2.2.2.2.2.1.base (by have := HR.out.2.2.2.2.1.1; omega))
            have u0 : wr.cell? ⟨go, 0, none⟩ = some (.slice Au (sortOut l).length cu) := HR.out.2.2.2.2.2.1.cell 0
            have HO1 := Lib.hid (show Below w.heap.size w wr ∧ Blk wr (w.heap.size + 1) 24 #[.slice none 0 0] ∧ Blk wr (w.heap.size + 2) 34 #[.int .i64 0, .int .i64 0] ∧ Blk wr go 24 #[.slice Au (sortOut l).length cu] from ⟨HR.out.1, HR.out.2.1, HR.out.2.2.1, HR.out.2.2.2.2.2.1⟩)
            rw [hno] at HCK HBN u0 HO1
            clear hce hca HR
            have hm1 : ¬ (-1 : Int) ≥ 0 := by omega
            go_wp2_with fail
            refine HCK.out.mono ?_
            rintro en w8 ⟨rfl, hb8⟩
            have hba := hb8.trans ((Below.refl w8.heap.size w8).alloc (Nat.le_refl _) (.cells #[.int .i64 ce, .int .i64 ca] 34) |>.mono hb8.size)
            have HO9 := Lib.hid (show Below w.heap.size w (w8.alloc (.cells #[.int .i64 ce, .int .i64 ca] 34)) ∧ Blk (w8.alloc (.cells #[.int .i64 ce, .int .i64 ca] 34)) (w.heap.size + 1) 24 #[.slice none 0 0] ∧ Blk (w8.alloc (.cells #[.int .i64 ce, .int .i64 ca] 34)) (w.heap.size + 2) 34 #[.int .i64 0, .int .i64 0] ∧ Blk (w8.alloc (.cells #[.int .i64 ce, .int .i64 ca] 34)) go 24 #[.slice Au no cu] from ⟨HO1.out.1.trans (hba.mono HO1.out.1.size), HO1.out.2.1.below hba HO1.out.2.1.lt, HO1.out.2.2.1.below hba HO1.out.2.2.1.lt, HO1.out.2.2.2.below hba HO1.out.2.2.2.lt⟩)
            have HB9 := Lib.hid (HBN.out.on hba)
            have HF9 := Lib.hid (Blk.new w8 34 #[.int .i64 ce, .int .i64 ca])
            have hgl9 : w.heap.size + 1 < w8.heap.size := by have := HO1.out.2.2.1.lt; have := hb8.size; omega
            clear hba hb8 HO1 HBN HCK u0
            go_upto_region 40 with (fail)
            generalize w8.alloc (.cells #[.int .i64 ce, .int .i64 ca] 34) = w9 at *
            obtain ⟨g9, hg9⟩ : ∃ g9, w8.heap.size = g9 := ⟨_, rfl⟩
            rw [hg9] at HF9 hgl9 ⊢
            clear hg9
            have hgn9 : ¬ g9 = w.heap.size + 1 := by omega
            have hgn8 : ¬ w.heap.size + 1 = g9 := by omega
            have y0 : w9.cell? ⟨g9, 0, none⟩ = some (.int .i64 ce) := HF9.out.cell 0
            have y1 : w9.cell? ⟨g9, 1, none⟩ = some (.int .i64 ca) := HF9.out.cell 1
            have u0 : w9.cell? ⟨go, 0, none⟩ = some (.slice Au no cu) := HO9.out.2.2.2.cell 0
            have u1 : w9.cell? ⟨w.heap.size + 1, 0, none⟩ = some (.slice none 0 0) := HO9.out.2.1.cell 0
            have u2 : w9.frozen? ⟨w.heap.size + 1, 0, none⟩ = false := HO9.out.2.1.frozen 0
            have u3 : w9.cell? ⟨w.heap.size + 1 + 1, 0, none⟩ = some (.int .i64 0) := HO9.out.2.2.1.cell 0
            have u4 : w9.cell? ⟨w.heap.size + 1 + 1, 1, none⟩ = some (.int .i64 0) := HO9.out.2.2.1.cell 1
            have u5 : w9.frozen? ⟨w.heap.size + 1 + 1, 0, none⟩ = false := HO9.out.2.2.1.frozen 0
            have u6 : w9.frozen? ⟨w.heap.size + 1 + 1, 1, none⟩ = false := HO9.out.2.2.1.frozen 1
            by_cases z : ce = 0
            · subst z
              have HRS := Lib.hid (res_set HO9.out.1 HO9.out.2.1 HO9.out.2.2.1 (.slice Au no cu) 0 0)
              have HBR := Lib.hid (bun_set HB9.out HO9.out.2.1 HO9.out.2.2.1 (.slice Au no cu) 0 0)
              go_wp2
              (try simp only [Exit.inBlock, Exit.then])
              exact bodyPost_ret (rsort_result HRS.out.2.1 rfl HRS.out.2.2 rfl) rfl ⟨⟨_, sortOut l, _, 0, 0, rfl, .inr ⟨HCO.out, .inr ⟨HCE.out.1, rfl, rfl, rfl⟩⟩, HBR.out⟩, HRS.out.1⟩
            · have z3 : (ce != 0) = true := by simpa using z
              have hbd := (Below.refl w9.heap.size w9).drew
              have HRS := Lib.hid (res_set (HO9.out.1.trans (hbd.mono HO9.out.1.size)) (HO9.out.2.1.below hbd HO9.out.2.1.lt) (HO9.out.2.2.1.below hbd HO9.out.2.2.1.lt) (.slice none 0 0) ce ca)
              have HZ := Lib.hid z
              clear z hbd
              go_upto_region 41 with (fail)
              refine wp_region_M (fun W => W.cell? ⟨g9, 0, none⟩ = some (.int .i64 ce) ∧ W.cell? ⟨g9, 1, none⟩ = some (.int .i64 ca)) 3 (by kernel_rfl) (by go_keep) (fun hHeld => ?_)
              refine wpAnyM_take (i := 0) (d := (some 135)) (v := ?_) rfl rfl (by kernel_rfl) (by kernel_rfl) (by kernel_rfl) (by kernel_rfl) (by kernel_rfl) (fun _ _ _ h => h) (Or.inl ⟨by rfl, ?_⟩) (by assumption) ?_
              rotate_left
              · intro w hSw
                (try dsimp only at hSw)
                go_simp
                (try with_reducible rfl)
              (try simp only [Act.put, List.setIfInBounds_toArray, List.set_cons_zero, List.set_cons_succ])
              refine wpAnyM_take (i := 1) (d := (some 136)) (v := ?_) rfl rfl (by kernel_rfl) (by kernel_rfl) (by kernel_rfl) (by kernel_rfl) (by kernel_rfl) (fun _ _ _ h => h) (Or.inl ⟨by rfl, ?_⟩) (by assumption) ?_
              rotate_left
              · intro w hSw
                (try dsimp only at hSw)
                go_simp
                (try with_reducible rfl)
              (try simp only [Act.put, List.setIfInBounds_toArray, List.set_cons_zero, List.set_cons_succ])
              refine wpAnyM_one (i := 2) (by kernel_rfl) ?_
              refine owe_early (i := 2) (d := none) rfl rfl (fun K hK => ?_)
              go_simp
              refine hK.out undef _ (by go_keep) (fun hHeld => ?_)
              clear hK K
              (try simp only [Act.put, List.setIfInBounds_toArray, List.set_cons_zero, List.set_cons_succ])
              refine wpAnyM_one (i := 3) (by kernel_rfl) ?_
              refine owe_late (i := 3) (d := none) rfl rfl (by decide) (fun K hK => ?_)
              go_simp
              refine hK.out undef _ ?_
              clear hK K
              (try simp only [Act.put, List.setIfInBounds_toArray, List.set_cons_zero, List.set_cons_succ])
              refine wpAnyM_done (by kernel_rfl) ?_ _
              (try simp only [Act.put, List.setIfInBounds_toArray, List.set_cons_zero, List.set_cons_succ])
              go_wp2
              (try simp only [Exit.inBlock, Exit.then])
              exact bodyPost_ret (rsort_result HRS.out.2.1 rfl HRS.out.2.2 rfl) rfl ⟨⟨_, [], [], ce, ca, rfl, .inr ⟨HCO.out, .inl ⟨by rw [HCE.out.1]; exact HZ.out, rfl, HCE.out.1.symm, HCE.out.2.symm⟩⟩, BunOwn.nil _ _⟩, HRS.out.1⟩
          · -- <<g2
            have HC1 := Lib.hid hc1
            have HC2 := Lib.hid hc2
            have HRS := Lib.hid (res_set HR1.out.1 HR1.out.2.1 HR1.out.2.2 (.slice none 0 0) 5 (kb : Int))
            have hm1 : (kb : Int) ≥ 0 := by omega
            clear hc1 hc2 HTD HOE
            go_wp2
            (try simp only [Exit.inBlock, Exit.then])
            exact bodyPost_ret (rsort_result HRS.out.2.1 rfl HRS.out.2.2 rfl) rfl ⟨⟨_, [], [], 5, _, rfl, .inl ⟨kb, HC1.out, HC2.out, rfl, rfl, rfl⟩, BunOwn.nil _ _⟩, HRS.out.1⟩
-- END rsort
end Go.Proofs.YtfpepdjffehbcaaGreat
