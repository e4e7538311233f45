/-
  Noise as a plain law: how it goes on.
-/
import Derived.Test.YtgkbpdcedighcacNoiseP
namespace NoiseP

def perI (f : Int) : Int := if f % 32 = 31 then 32 else 64 * (31 - f % 32)
theorem perI_pos (f : Int) : 1 ≤ perI f ∧ perI f ≤ 1984 := by unfold perI; split <;> omega

def goS (s : Nat) (l p n : Int) : Nat := if n < l then s else jumpN s ((n - l) / p + 1)
def goL (l p n : Int) : Int := if n < l then l - n else p - (n - l) % p

theorem goL_pos (l p n : Int) (hp : 1 ≤ p) : 1 ≤ goL l p n := by
  unfold goL
  have := Int.emod_lt_of_pos (n - l) (show 0 < p by omega)
  split <;> omega
theorem goL_le (l p n : Int) (hn : 0 ≤ n) (hp : 1 ≤ p) (hl : l ≤ 1984) (hp2 : p ≤ 1984) : goL l p n ≤ 1984 := by
  unfold goL
  have := Int.emod_nonneg (n - l) (show p ≠ 0 by omega)
  split <;> omega
theorem goS_lt (s : Nat) (l p n : Int) (hs : s < 262144) : goS s l p n < 262144 := by
  unfold goS
  split
  · exact hs
  · exact jumpN_lt _ _

theorem div_split (x p : Int) (hp : 1 ≤ p) : ∃ q r, x = q * p + r ∧ 0 ≤ r ∧ r < p ∧ x / p = q ∧ x % p = r :=
  ⟨x / p, x % p, by rw [Int.mul_comm]; exact (Int.mul_ediv_add_emod x p).symm, Int.emod_nonneg x (by omega), Int.emod_lt_of_pos x (by omega), rfl, rfl⟩
theorem div_join (q r p : Int) (h0 : 0 ≤ r) (h1 : r < p) : (q * p + r) / p = q ∧ (q * p + r) % p = r := by
  constructor
  · rw [Int.add_comm, Int.add_mul_ediv_right _ _ (by omega), Int.ediv_eq_zero_of_lt h0 h1, Int.zero_add]
  · rw [Int.add_comm, Int.add_mul_emod_self_right, Int.emod_eq_of_lt h0 h1]

theorem go_add (s : Nat) (l p a b : Int) (hp : 1 ≤ p) (hb : 0 ≤ b) :
    goS (goS s l p a) (goL l p a) p b = goS s l p (a + b) ∧ goL (goL l p a) p b = goL l p (a + b) := by
  by_cases h1 : a < l
  · have e1 : goS s l p a = s := if_pos h1
    have e2 : goL l p a = l - a := if_pos h1
    rw [e1, e2]
    by_cases h2 : b < l - a
    · constructor
      · rw [goS, goS, if_pos h2, if_pos (by omega)]
      · rw [goL, goL, if_pos h2, if_pos (by omega)]; omega
    · have h3 : ¬ a + b < l := by omega
      have e3 : b - (l - a) = a + b - l := by omega
      constructor
      · rw [goS, goS, if_neg h2, if_neg h3, e3]
      · rw [goL, goL, if_neg h2, if_neg h3, e3]
  · obtain ⟨q, r, hx, hr0, hr1, hd, hm⟩ := div_split (a - l) p hp
    have e1 : goS s l p a = jumpN s (q + 1) := by rw [goS, if_neg h1, hd]
    have e2 : goL l p a = p - r := by rw [goL, if_neg h1, hm]
    rw [e1, e2]
    have h3 : ¬ a + b < l := by omega
    by_cases h2 : b < p - r
    · have e3 : a + b - l = q * p + (r + b) := by omega
      have := div_join q (r + b) p (by omega) (by omega)
      constructor
      · rw [goS, goS, if_pos h2, if_neg h3, e3, this.1]
      · rw [goL, goL, if_pos h2, if_neg h3, e3, this.2]; omega
    · obtain ⟨q2, r2, hx2, h20, h21, hd2, hm2⟩ := div_split (b - (p - r)) p hp
      have e3 : a + b - l = (q + 1 + q2) * p + r2 := by
        rw [Int.add_mul, Int.add_mul, Int.one_mul]; omega
      have := div_join (q + 1 + q2) r2 p h20 h21
      constructor
      · rw [goS, goS, if_neg h2, if_neg h3, e3, this.1, hd2, jumpN_add]
        congr 1
        omega
      · rw [goL, goL, if_neg h2, if_neg h3, e3, this.2, hm2]

theorem jumpN_one (s : Nat) : jumpN s 1 = nextN s := by
  rw [jumpN, if_pos (by omega)]
  show nextN (s % 262144) = _
  exact nextN_mod s

/-- One step of the reference's loop. -/
theorem go_step (s : Nat) (l p n : Int) (hp : 1 ≤ p) (h : l ≤ n) :
    goS (nextN s) p p (n - l) = goS s l p n ∧ goL p p (n - l) = goL l p n := by
  have e := go_add s l p l (n - l) hp (by omega)
  have e1 : goS s l p l = nextN s := by
    rw [goS, if_neg (by omega), Int.sub_self, Int.zero_ediv, Int.zero_add, jumpN_one]
  have e2 : goL l p l = p := by
    rw [goL, if_neg (by omega), Int.sub_self, Int.zero_emod]; omega
  rw [e1, e2, show l + (n - l) = n by omega] at e
  exact e
end NoiseP
