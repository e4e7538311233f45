/-
  What a slice that came in holds: its elements' cells, element by element.
-/
import Derived.Test.YtgkbpdcedighcacRows
import Derived.WalkKit
import Derived.ProofKit
import Derived.OpenShut
import Derived.ShutString
import Derived.ChangeOld
import Derived.Below
import Derived.Deep.Slices
import Derived.Deep.Fields
namespace Go.Proofs.Ytgkbpdcedighcac
open Go.ChangeShapes Go.WideShapes Go.ChangeAt Go.RowKit

theorem laidOut : laidOutB Try.prog = true := by kernel_rfl

/-- The slice value (a, n, cap) reads as n elements of k cells each, F i being the i-th one's cells, each with R. -/
structure SlR (w : World) (a : Option Addr) (n cap k : Nat) (R : List Value → Prop) (F : Nat → List Value) : Prop where
  le : n ≤ cap
  max : cap ≤ maxLen
  nil : a = none → cap = 0
  elem : ∀ i, i < n → R (F i) ∧ (F i).length = k ∧ ∃ b off, a = some ⟨b, off, none⟩ ∧ b < w.heap.size ∧ ∀ j, j < k → w.cell? ⟨b, off + (i * k + j), none⟩ = (F i)[j]?

theorem add_at (b off : Nat) (n : Nat) : (⟨b, off, none⟩ : Addr).add n = ⟨b, off + n, none⟩ := by
  unfold Addr.add
  split
  · subst n; rfl
  · rfl

section
variable {H : Type} {enc : TypeId × Value → H} {P : Program} {w : World} {base : Nat} {spare : Nat → Bool} {held : Bool}

theorem open_slr {t e : TypeId} {k : Nat} {R : List Value → Prop} {a : Option Addr} {n cap : Nat} {d : DataW H} {p : List MemPlace} (ht : P.underlying t = some (.slice e)) (hk : P.cellsOf e = k) (hpos : 0 < k)
    (hR : ∀ m cs x, DataW.trod enc P w base spare held m e cs = some x → R cs) (h : DataW.Trod enc P w base spare held t (.slice a n cap) d p) : ∃ F, SlR w a n cap k R F := by
  obtain ⟨fuel, hf⟩ := h
  rcases Go.Deep.open_slice ht hf with ⟨hcs, _⟩ | ⟨x, l, c, m, q, D, Pl, hcs, _, hl, hm, hmm, _, hi⟩
  · simp [Value.cells] at hcs
    obtain ⟨rfl, rfl, rfl⟩ := hcs
    exact ⟨fun _ => [], by omega, by unfold maxLen; omega, fun _ => rfl, fun i hi => by omega⟩
  · simp [Value.cells] at hcs
    obtain ⟨rfl, rfl, rfl⟩ := hcs
    have hnm : n ≤ m := by rw [hmm]; split <;> omega
    have hex : ∀ i, ∃ cs : List Value, i < n → R cs ∧ cs.length = k ∧ ∀ j, j < k → w.cell? ((x.add (i * k)).add j) = cs[j]? := by
      intro i
      by_cases hlt : i < n
      · obtain ⟨cs', hc, htr⟩ := hi i (by omega)
        rw [hk] at hc
        obtain ⟨_, hcl, hat⟩ := World.cells?_some hc
        exact ⟨cs', fun _ => ⟨hR _ _ _ htr, hcl, hat⟩⟩
      · exact ⟨[], fun h => absurd h hlt⟩
    obtain ⟨F, hF⟩ := Classical.skolem.1 hex
    obtain ⟨b, off, spot⟩ := x
    refine ⟨F, hl, hm, (fun h => by cases h), fun i hin => ?_⟩
    obtain ⟨h1, h2, h3⟩ := hF i hin
    have hspot : spot = none := by
      obtain ⟨_, hl0, h30⟩ := hF 0 (by omega)
      have hc := h30 0 hpos
      have e0 : ((⟨b, off, spot⟩ : Addr).add (0 * k)).add 0 = ⟨b, off, spot⟩ := by simp [Addr.add]
      rw [e0, List.getElem?_eq_getElem (by omega)] at hc
      simpa using World.cell?_spot hc
    subst hspot
    have hcell : ∀ j, j < k → w.cell? ⟨b, off + (i * k + j), none⟩ = (F i)[j]? := fun j hj => by
      have := h3 j hj
      rwa [add_at, add_at, Nat.add_assoc] at this
    refine ⟨h1, h2, b, off, rfl, ?_, hcell⟩
    have hc := hcell 0 hpos
    rw [List.getElem?_eq_getElem (by omega)] at hc
    exact block_lt_of_cell hc
end

/-- One cell: a number of this kind. -/
def IsInt (k : IntKind) (cs : List Value) : Prop := ∃ z, cs = [.int k z] ∧ (Lit.int k z).wf = true
def IsBool (cs : List Value) : Prop := ∃ z, cs = [.bool z]

theorem SlR.ints {w : World} {a : Option Addr} {n cap : Nat} {k : IntKind} {F : Nat → List Value} (h : SlR w a n cap 1 (IsInt k) F) :
    ∃ z : Nat → Int, ∀ i, i < n → (Lit.int k (z i)).wf = true ∧ ∃ b off, a = some ⟨b, off, none⟩ ∧ b < w.heap.size ∧ w.cell? ⟨b, off + i, none⟩ = some (.int k (z i)) := by
  have hex : ∀ i, ∃ x : Int, i < n → (Lit.int k x).wf = true ∧ ∃ b off, a = some ⟨b, off, none⟩ ∧ b < w.heap.size ∧ w.cell? ⟨b, off + i, none⟩ = some (.int k x) := by
    intro i
    by_cases hi : i < n
    · obtain ⟨⟨x, hx, hw⟩, _, b, off, ha, hb, hc⟩ := h.elem i hi
      refine ⟨x, fun _ => ⟨hw, b, off, ha, hb, ?_⟩⟩
      have := hc 0 (by omega)
      rwa [hx, Nat.mul_one, Nat.add_zero] at this
    · exact ⟨0, fun h => absurd h hi⟩
  exact Classical.skolem.1 hex

theorem SlR.bools {w : World} {a : Option Addr} {n cap : Nat} {F : Nat → List Value} (h : SlR w a n cap 1 IsBool F) :
    ∃ z : Nat → Bool, ∀ i, i < n → ∃ b off, a = some ⟨b, off, none⟩ ∧ b < w.heap.size ∧ w.cell? ⟨b, off + i, none⟩ = some (.bool (z i)) := by
  have hex : ∀ i, ∃ x : Bool, i < n → ∃ b off, a = some ⟨b, off, none⟩ ∧ b < w.heap.size ∧ w.cell? ⟨b, off + i, none⟩ = some (.bool x) := by
    intro i
    by_cases hi : i < n
    · obtain ⟨⟨x, hx⟩, _, b, off, ha, hb, hc⟩ := h.elem i hi
      refine ⟨x, fun _ => ⟨b, off, ha, hb, ?_⟩⟩
      have := hc 0 (by omega)
      rwa [hx, Nat.mul_one, Nat.add_zero] at this
    · exact ⟨false, fun h => absurd h hi⟩
  exact Classical.skolem.1 hex

theorem wf_bounds_u8 {x : Int} (h : (Lit.int .u8 x).wf = true) : 0 ≤ x ∧ x ≤ 255 := by simpa [Lit.wf, IntKind.min, IntKind.max, IntKind.signed, IntKind.bits] using h
theorem wf_bounds_u16 {x : Int} (h : (Lit.int .u16 x).wf = true) : 0 ≤ x ∧ x ≤ 65535 := by simpa [Lit.wf, IntKind.min, IntKind.max, IntKind.signed, IntKind.bits] using h
theorem wf_bounds_u32 {x : Int} (h : (Lit.int .u32 x).wf = true) : 0 ≤ x ∧ x ≤ 4294967295 := by simpa [Lit.wf, IntKind.min, IntKind.max, IntKind.signed, IntKind.bits] using h
theorem wf_bounds_i64 {x : Int} (h : (Lit.int .i64 x).wf = true) : -9223372036854775808 ≤ x ∧ x ≤ 9223372036854775807 := by simpa [Lit.wf, IntKind.min, IntKind.max, IntKind.signed, IntKind.bits] using h
end Go.Proofs.Ytgkbpdcedighcac
