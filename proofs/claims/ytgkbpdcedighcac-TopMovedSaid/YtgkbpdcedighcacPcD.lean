/-
  How pieces read, as they came in (the plain part of PcR).
-/
import Derived.Test.YtgkbpdcedighcacOpenS
import Derived.Test.YtgkbpdcedighcacRegion
namespace Go.Proofs.Ytgkbpdcedighcac
open Go.RowKit Go.Sort

/-- The slice's bytes, in blocks that are there. -/
def BRB (w : World) (A : Option Addr) (n : Nat) (f : Nat → Nat) : Prop := ∀ i, i < n → ∃ b off, A = some ⟨b, off, none⟩ ∧ b < w.heap.size ∧ w.cell? ⟨b, off + i, none⟩ = some (.int .u8 (f i : Int))
theorem BRB.below {w w' : World} {A : Option Addr} {n : Nat} {f : Nat → Nat} (h : BRB w A n f) (hb : Below w.heap.size w w') : BRB w' A n f := fun i hi => by
  obtain ⟨b, off, h1, h2, h3⟩ := h i hi
  exact ⟨b, off, h1, Nat.lt_of_lt_of_le h2 hb.size, (hb.cell (p := ⟨b, off + i, none⟩) h2).trans h3⟩

/-- A piece. -/
structure Pv where
  z : Int
  l : Nat
  g : Nat → Nat
/-- The pieces' reading. -/
def PcR (w : World) (A : Option Addr) (n : Nat) (Z : Nat → Pv) : Prop :=
  ∀ i, i < n → ∃ b off A' cap', A = some ⟨b, off, none⟩ ∧ b < w.heap.size ∧ w.cell? ⟨b, off + i * 2, none⟩ = some (.int .i64 (Z i).z) ∧ w.cell? ⟨b, off + i * 2 + 1, none⟩ = some (.slice A' (Z i).l cap') ∧ (Z i).l ≤ maxLen ∧ BRB w A' (Z i).l (Z i).g
theorem PcR.below {w w' : World} {A : Option Addr} {n : Nat} {Z : Nat → Pv} (h : PcR w A n Z) (hb : Below w.heap.size w w') : PcR w' A n Z := fun i hi => by
  obtain ⟨b, off, A', cap', h1, h2, h3, h4, h5, h6⟩ := h i hi
  exact ⟨b, off, A', cap', h1, Nat.lt_of_lt_of_le h2 hb.size, (hb.cell (p := ⟨b, off + i * 2, none⟩) h2).trans h3, (hb.cell (p := ⟨b, off + i * 2 + 1, none⟩) h2).trans h4, h5, h6.below hb⟩
end Go.Proofs.Ytgkbpdcedighcac
