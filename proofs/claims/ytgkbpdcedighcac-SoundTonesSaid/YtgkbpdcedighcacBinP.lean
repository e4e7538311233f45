/-
  Plain: how much of a row goes round by quarters.
-/
import Derived.Test.YtgkbpdcedighcacCplx
namespace Go.Proofs.Ytgkbpdcedighcac

def mulZ (a b : Int × Int) : Int × Int := (a.1 * b.1 - a.2 * b.2, a.1 * b.2 + a.2 * b.1)
def addZ (a b : Int × Int) : Int × Int := (a.1 + b.1, a.2 + b.2)

theorem mulZ_tI (a b : Nat) : mulZ (tI a) (tI b) = tI (a + b) := by
  induction b with
  | zero => simp [mulZ, tI]
  | succ b ih =>
    rw [← Nat.add_assoc]
    simp only [tI]
    rw [← ih]
    simp only [mulZ, Prod.mk.injEq]
    constructor
    · rw [Int.mul_neg]; omega
    · rw [Int.mul_neg]; omega

def binZ (z : Nat → Int) (k : Nat) : Nat → Int × Int
  | 0 => (0, 0)
  | n + 1 => addZ (binZ z k n) (mulZ (z n, 0) (tI (k * n)))

theorem mulZ_re (x : Int) (a : Int × Int) : mulZ (x, 0) a = (x * a.1, x * a.2) := by simp [mulZ]

theorem tI_abs (k : Nat) (x B : Int) (h : -B ≤ x ∧ x ≤ B) : (-B ≤ x * (tI k).1 ∧ x * (tI k).1 ≤ B) ∧ (-B ≤ x * (tI k).2 ∧ x * (tI k).2 ≤ B) := by
  rw [← tI_mod k]
  have : k % 4 < 4 := Nat.mod_lt _ (by omega)
  generalize k % 4 = r at this
  match r, this with
  | 0, _ => simp [tI]; omega
  | 1, _ => simp [tI]; omega
  | 2, _ => simp [tI]; omega
  | 3, _ => simp [tI]; omega

theorem binZ_le (z : Nat → Int) (k : Nat) (B : Int) : ∀ n, (∀ i, i < n → -B ≤ z i ∧ z i ≤ B) → (-(B * n) ≤ (binZ z k n).1 ∧ (binZ z k n).1 ≤ B * n) ∧ (-(B * n) ≤ (binZ z k n).2 ∧ (binZ z k n).2 ≤ B * n)
  | 0, _ => by simp [binZ]
  | n + 1, h => by
    have ih := binZ_le z k B n fun i hi => h i (by omega)
    have hx := tI_abs (k * n) (z n) B (h n (by omega))
    simp only [binZ, addZ, mulZ_re]
    rw [Int.natCast_add, Int.mul_add]
    simp only [Int.natCast_one, Int.mul_one]
    omega
end Go.Proofs.Ytgkbpdcedighcac
