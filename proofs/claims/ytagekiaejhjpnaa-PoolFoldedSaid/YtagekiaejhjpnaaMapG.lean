/-
  A map that the call makes, as a function of its keys (elements as they stand); no program in sight. Plain lemmas; no condition.
-/
import Derived.Maps.Own
import Derived.Maps.OwnOps
import Derived.Maps.OwnSet
import Derived.Maps.Views
import Derived.StringKeys
import Derived.Test.YtagekiaejhjpnaaBlocks
namespace Go.Proofs.Ytagekiaejhjpnaa
open Go.RowKit

def rawE (v : Value) : Option (DataW Value × List MemPlace) := some (.held v, [])
/-- Block b is a map of m entries (at most n) that holds f. -/
def MapG {κ : Type} (P : Program) (k : TypeId) (kl : κ → Lit) (ok : κ → Prop) (w : World) (b n m : Nat) (f : κ → Option Value) : Prop :=
  ∃ D : DataW Value, w.ownsMap P k rawE b n D ∧ Maps.size D = m ∧ (∀ s, ok s → Maps.has D (kl s) = (f s).isSome) ∧ ∀ s z, ok s → D.atKey (kl s) (.held z) = .held ((f s).getD z)
section
variable {κ : Type} {P : Program} {k : TypeId} {kl : κ → Lit} {ok : κ → Prop} {w w' : World} {b n m : Nat} {f : κ → Option Value}
theorem MapG.made (w : World) (P : Program) (k : TypeId) (kl : κ → Lit) (ok : κ → Prop) : MapG P k kl ok (w.alloc (.map #[] 0)) w.heap.size 0 0 (fun _ => none) :=
  ⟨.map [], World.ownsMap_made _ _ _ _, rfl, fun _ _ => rfl, fun _ _ _ => rfl⟩
theorem MapG.lt (h : MapG P k kl ok w b n m f) : b < w.heap.size := by obtain ⟨D, h, _⟩ := h; exact h.lt
theorem MapG.kept {row : Option Nat} (h : MapG P k kl ok w b n m f) (hg : w.grownBy w' row) (hne : some b ≠ row) : MapG P k kl ok w' b n m f := by
  obtain ⟨D, h, r⟩ := h; exact ⟨D, h.kept hg hne, r⟩
theorem MapG.below {B : Nat} (h : MapG P k kl ok w b n m f) (hb : Below B w w') (hB : b < B) : MapG P k kl ok w' b n m f := by
  obtain ⟨D, ⟨es, clock, hh, r1⟩, r⟩ := h
  exact ⟨D, ⟨es, clock, (hb.block b hB).trans hh, r1⟩, r⟩
theorem MapG.on (h : MapG P k kl ok w b n m f) (hb : Below w.heap.size w w') : MapG P k kl ok w' b n m f := h.below hb h.lt
theorem MapG.alloc (h : MapG P k kl ok w b n m f) (o : Obj) : MapG P k kl ok (w.alloc o) b n m f := by
  obtain ⟨D, h, r⟩ := h; exact ⟨D, h.alloc o, r⟩
theorem MapG.drewN (h : MapG P k kl ok w b n m f) (q : Nat) : MapG P k kl ok (w.drewN q) b n m f := h
theorem MapG.mono (h : MapG P k kl ok w b n m f) {n' : Nat} (hn : n ≤ n') : MapG P k kl ok w b n' m f := by
  obtain ⟨D, h, r⟩ := h; exact ⟨D, h.mono hn, r⟩
theorem MapG.le (h : MapG P k kl ok w b n m f) : m ≤ n := by
  obtain ⟨D, h, rfl, _⟩ := h
  exact h.size_le
theorem MapG.look {t e : TypeId} (h : MapG P k kl ok w b n m f) (K : Maps.Keyed P k) (ht : P.underlying t = some (.map k e)) {z : Value} (hz : (zeroValue e).run P w = .ok z w) {key : Value} {s : κ} (hs : ok s) (hkey : keyOf P k key = some (kl s)) :
    (Instr.lookup t (.map (some b)) key false).run P w = .ok ((f s).getD z) w := by
  obtain ⟨D, h, -, -, hat⟩ := h
  obtain ⟨v, ps, hrun, hv⟩ := h.lookup K ht hz (show rawE z = some (.held z, []) from rfl) hkey
  rw [hat s z hs] at hv
  simp only [rawE, Option.some.injEq, Prod.mk.injEq, DataW.held.injEq] at hv
  rw [hrun, hv.1]
theorem MapG.look_ok {t e : TypeId} (h : MapG P k kl ok w b n m f) (K : Maps.Keyed P k) (ht : P.underlying t = some (.map k e)) {z : Value} (hz : (zeroValue e).run P w = .ok z w) {key : Value} {s : κ} (hs : ok s) (hkey : keyOf P k key = some (kl s)) :
    (Instr.lookup t (.map (some b)) key true).run P w = .ok (.tuple #[(f s).getD z, .bool (f s).isSome]) w := by
  obtain ⟨D, h, -, hhas, hat⟩ := h
  obtain ⟨v, ps, hrun, hv⟩ := h.look_ok K ht hz (show rawE z = some (.held z, []) from rfl) hkey
  rw [hat s z hs] at hv
  simp only [rawE, Option.some.injEq, Prod.mk.injEq, DataW.held.injEq] at hv
  rw [hrun, hv.1, hhas s hs]
theorem MapG.len {t e : TypeId} (h : MapG P k kl ok w b n m f) (ht : P.underlying t = some (.map k e)) (ty : TypeId) : (Builtin.len_ #[t] ty #[.map (some b)]).run P w = .ok (.int .i64 m) w := by
  obtain ⟨D, h, rfl, _⟩ := h
  exact h.len ht ty
/-- What a store leaves. -/
def putF [DecidableEq κ] (f : κ → Option Value) (s : κ) (v : Value) : κ → Option Value := fun x => if x = s then some v else f x
theorem MapG.store [DecidableEq κ] {t e : TypeId} (h : MapG P k kl ok w b n m f) (K : Maps.Keyed P k) (ht : P.underlying t = some (.map k e)) (hn : n < maxLen) (hinj : ∀ x y, ok x → ok y → kl x = kl y → x = y) {key : Value} {s : κ} (hs : ok s) (hkey : keyOf P k key = some (kl s)) (v : Value) :
    ∃ w', (Instr.mapUpdate t (.map (some b)) key v).run P w = .ok () w' ∧ MapG P k kl ok w' b (n + 1) (if (f s).isSome then m else m + 1) (putF f s v) ∧ w.grownBy w' (some b) := by
  obtain ⟨D, h, rfl, hhas, hat⟩ := h
  obtain ⟨w', hrun, h', hg⟩ := h.update K ht hn hkey (show rawE v = some (.held v, []) from rfl)
  have hk := K.key hkey
  refine ⟨w', hrun, ⟨_, h', ?_, fun x hx => ?_, fun x z hx => ?_⟩, hg⟩
  · rw [Maps.size_put (h.tidy K), hhas s hs]
  · unfold putF
    split
    · rename_i e
      subst e
      rw [Maps.has_put_same h.isMap hk]
      rfl
    · rename_i e
      rw [Maps.has_put_other (fun e' => e (hinj _ _ hx hs e')), hhas x hx]
  · unfold putF
    split
    · rename_i e
      subst e
      rw [Maps.atKey_put_same h.isMap hk]
      rfl
    · rename_i e
      rw [Maps.atKey_put_other (fun e' => e (hinj _ _ hx hs e')), hat x z hx]
end
/-- Maps of texts. -/
def strL (s : ByteArray) : Lit := .string s.data.toList
def strOk (s : ByteArray) : Prop := s.size ≤ maxLen
theorem strL_inj (x y : ByteArray) (_ : strOk x) (_ : strOk y) (h : strL x = strL y) : x = y := by
  unfold strL at h
  obtain ⟨⟨x⟩⟩ := x
  obtain ⟨⟨y⟩⟩ := y
  simpa using h
end Go.Proofs.Ytagekiaejhjpnaa
