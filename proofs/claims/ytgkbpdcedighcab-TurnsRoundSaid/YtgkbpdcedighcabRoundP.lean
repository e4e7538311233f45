/-
  Plain: two rows laid over one another all around.
-/
import Derived.Test.YtgkbpdcedighcabTurnQ
import Derived.Test.YtgkbpdcedighcabBinQ
namespace Go.Proofs.Ytgkbpdcedighcab

theorem foldZ_four (g : Nat → Int) (j : Nat) (hj : j < 4) : foldZ g 4 j = g j := by
  match j, hj with
  | 0, _ => simp [foldZ]
  | 1, _ => simp [foldZ]
  | 2, _ => simp [foldZ]
  | 3, _ => simp [foldZ]

def cvZ (f g : Nat → Int) : Nat → Int
  | 0 => f 0 * g 0 + f 1 * g 3 + f 2 * g 2 + f 3 * g 1
  | 1 => f 0 * g 1 + f 1 * g 0 + f 2 * g 3 + f 3 * g 2
  | 2 => f 0 * g 2 + f 1 * g 1 + f 2 * g 0 + f 3 * g 3
  | _ => f 0 * g 3 + f 1 * g 2 + f 2 * g 1 + f 3 * g 0
def prZ (f g : Nat → Int) (k : Nat) : Int × Int := mulZ (binZ f k 4) (binZ g k 4)

theorem bin4 (f : Nat → Int) : binZ f 0 4 = (f 0 + f 1 + f 2 + f 3, 0) ∧ binZ f 1 4 = (f 0 - f 2, f 3 - f 1) ∧ binZ f 2 4 = (f 0 - f 1 + f 2 - f 3, 0) ∧ binZ f 3 4 = (f 0 - f 2, f 1 - f 3) := by
  obtain ⟨h0, h1, h2, h3⟩ := binZ_fold f 4
  rw [foldZ_four f 0 (by omega), foldZ_four f 1 (by omega), foldZ_four f 2 (by omega), foldZ_four f 3 (by omega)] at h0 h2
  rw [foldZ_four f 0 (by omega), foldZ_four f 2 (by omega), foldZ_four f 3 (by omega), foldZ_four f 1 (by omega)] at h1
  rw [foldZ_four f 0 (by omega), foldZ_four f 2 (by omega), foldZ_four f 1 (by omega), foldZ_four f 3 (by omega)] at h3
  exact ⟨h0, h1, h2, h3⟩

theorem four_round (f g : Nat → Int) (n : Nat) (hn : n < 4) : fourS (prZ f g) n 4 = (4 * cvZ f g n, 0) := by
  obtain ⟨f0, f1, f2, f3⟩ := bin4 f
  obtain ⟨g0, g1, g2, g3⟩ := bin4 g
  match n, hn with
  | 0, _ => rw [four0]; simp only [prZ, mulZ, f0, f1, f2, f3, g0, g1, g2, g3, cvZ, Int.mul_add, Int.mul_sub, Int.add_mul, Int.sub_mul, Int.mul_zero, Int.zero_mul, Prod.mk.injEq]; omega
  | 1, _ => rw [four1]; simp only [prZ, mulZ, f0, f1, f2, f3, g0, g1, g2, g3, cvZ, Int.mul_add, Int.mul_sub, Int.add_mul, Int.sub_mul, Int.mul_zero, Int.zero_mul, Prod.mk.injEq]; omega
  | 2, _ => rw [four2]; simp only [prZ, mulZ, f0, f1, f2, f3, g0, g1, g2, g3, cvZ, Int.mul_add, Int.mul_sub, Int.add_mul, Int.sub_mul, Int.mul_zero, Int.zero_mul, Prod.mk.injEq]; omega
  | 3, _ => rw [four3]; simp only [prZ, mulZ, f0, f1, f2, f3, g0, g1, g2, g3, cvZ, Int.mul_add, Int.mul_sub, Int.add_mul, Int.sub_mul, Int.mul_zero, Int.zero_mul, Prod.mk.injEq]; omega

/-- The reference's sums behind m of the sixteen products. -/
def cvP (f g : Nat → Int) : Nat → Nat → Int
  | 0, _ => 0
  | m + 1, j => cvP f g m j + (if (m / 4 + m % 4) % 4 = j then f (m / 4) * g (m % 4) else 0)
theorem cvP_16 (f g : Nat → Int) (j : Nat) (hj : j < 4) : cvP f g 16 j = cvZ f g j := by
  match j, hj with
  | 0, _ => simp [cvP, cvZ]
  | 1, _ => simp [cvP, cvZ]
  | 2, _ => simp [cvP, cvZ]
  | 3, _ => simp [cvP, cvZ]

theorem mul_le36 (x y : Int) (hx : -262144 ≤ x ∧ x ≤ 262144) (hy : -262144 ≤ y ∧ y ≤ 262144) : -68719476736 ≤ x * y ∧ x * y ≤ 68719476736 := by
  have h1 : x.natAbs * y.natAbs ≤ 262144 * 262144 := Nat.mul_le_mul (by omega) (by omega)
  have h2 : (x * y).natAbs = x.natAbs * y.natAbs := Int.natAbs_mul x y
  omega
theorem cvP_le (f g : Nat → Int) (hf : ∀ i, i < 4 → -262144 ≤ f i ∧ f i ≤ 262144) (hg : ∀ i, i < 4 → -262144 ≤ g i ∧ g i ≤ 262144) (j : Nat) : ∀ m, m ≤ 16 → -(68719476736 * m) ≤ cvP f g m j ∧ cvP f g m j ≤ 68719476736 * m
  | 0, _ => by simp [cvP]
  | m + 1, h => by
    have ih := cvP_le f g hf hg j m (by omega)
    have hm := mul_le36 _ _ (hf (m / 4) (by omega)) (hg (m % 4) (by omega))
    simp only [cvP]
    rw [Int.natCast_add, Int.mul_add]
    simp only [Int.natCast_one, Int.mul_one]
    split <;> omega
/-- The transform of the one laid over the other: the product. -/
theorem bin_round (f g : Nat → Int) : (binF (cvZ f g) 0 = binF f 0 * binF g 0 - binF f 1 * binF g 1 ∧ binF (cvZ f g) 1 = binF f 0 * binF g 1 + binF f 1 * binF g 0)
    ∧ (binF (cvZ f g) 2 = binF f 2 * binF g 2 - binF f 3 * binF g 3 ∧ binF (cvZ f g) 3 = binF f 2 * binF g 3 + binF f 3 * binF g 2)
    ∧ (binF (cvZ f g) 4 = binF f 4 * binF g 4 - binF f 5 * binF g 5 ∧ binF (cvZ f g) 5 = binF f 4 * binF g 5 + binF f 5 * binF g 4)
    ∧ (binF (cvZ f g) 6 = binF f 6 * binF g 6 - binF f 7 * binF g 7 ∧ binF (cvZ f g) 7 = binF f 6 * binF g 7 + binF f 7 * binF g 6) := by
  simp only [binF, cvZ, Int.mul_add, Int.mul_sub, Int.add_mul, Int.sub_mul, Int.mul_zero, Int.zero_mul]
  omega
end Go.Proofs.Ytgkbpdcedighcab
