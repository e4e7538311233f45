
/-
  The walks of turns.Fold, the reference's Fold, turns.Of.
-/
import Derived.Test.YtgkbpdcedighcacTurnW
namespace Go.Proofs.Ytgkbpdcedighcac
open Go.RowKit Go.Sort

def foldZ (z : Nat → Int) : Nat → Nat → Int
  | 0, _ => 0
  | n + 1, j => foldZ z n j + (if n % 4 = j then z n else 0)
theorem foldZ_le (z : Nat → Int) (B : Int) (j : Nat) (hB : 0 ≤ B) : ∀ n, (∀ i, i < n → -B ≤ z i ∧ z i ≤ B) → -(B * n) ≤ foldZ z n j ∧ foldZ z n j ≤ B * n
  | 0, _ => by simp [foldZ]
  | n + 1, h => by
    have ih := foldZ_le z B j hB n fun i hi => h i (by omega)
    have hx := h n (by omega)
    simp only [foldZ]
    rw [Int.natCast_add, Int.mul_add]
    simp only [Int.natCast_one, Int.mul_one]
    split <;> omega
def foldR (z : Nat → Int) (n j : Nat) : Int := if wrongZ z n = 0 then foldZ z n j else 0
def rowI (n : Nat) (f : Nat → Int) : List Value := rowF n fun i => .int .i64 (f i)
theorem rowI_one (n : Nat) (f : Nat → Int) : ∀ v ∈ rowI n f, v.oneCell' = true := rowF_all fun _ _ => rfl

theorem wrongZ_zero {z : Nat → Int} {n : Nat} (h : wrongZ z n = 0) : n ≤ 4096 ∧ ∀ i, i < n → -262144 ≤ z i ∧ z i ≤ 262144 := by
  unfold wrongZ at h
  split at h
  · cases h
  · rename_i h1
    split at h
    · cases h
    · rename_i h2
      exact ⟨by omega, badB_no z (by simpa using h2)⟩

end Go.Proofs.Ytgkbpdcedighcac
