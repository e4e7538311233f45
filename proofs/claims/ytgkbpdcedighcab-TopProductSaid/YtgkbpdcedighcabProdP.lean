/-
  Plain: the product by shifts and additions.
-/
import Derived.Test.YtgkbpdcedighcabByte
namespace Go.Proofs.Ytgkbpdcedighcab

def prodN (a b : Nat) : Nat → Nat
  | 0 => a
  | i + 1 => (prodN a b i + prodN a b i % 2 * b * 256) / 2

theorem prodN_eq (a b : Nat) : ∀ i, i ≤ 8 → prodN a b i = a / 2 ^ i + b * (a % 2 ^ i) * 2 ^ (8 - i)
  | 0, _ => by simp [prodN, Nat.mod_one]
  | i + 1, hi => by
    have ih := prodN_eq a b i (by omega)
    unfold prodN
    have e8 : 2 ^ (8 - i) = 2 * 2 ^ (8 - (i + 1)) := by rw [← Nat.pow_succ']; congr 1; omega
    have e1 : a / 2 ^ (i + 1) = a / 2 ^ i / 2 := by rw [Nat.pow_succ, Nat.div_div_eq_div_mul]
    have e2 : a % 2 ^ (i + 1) = a % 2 ^ i + 2 ^ i * (a / 2 ^ i % 2) := by rw [Nat.pow_succ, Nat.mod_mul]
    have e3 : 2 ^ i * 2 ^ (8 - (i + 1)) = 128 := by rw [← Nat.pow_add]; rw [show i + (8 - (i + 1)) = 7 by omega]
    obtain ⟨A, hA⟩ : ∃ A, A = a / 2 ^ i := ⟨_, rfl⟩
    obtain ⟨m, hm⟩ : ∃ m, m = b * (a % 2 ^ i) * 2 ^ (8 - (i + 1)) := ⟨_, rfl⟩
    have hp : prodN a b i = A + 2 * m := by
      rw [ih, e8, ← hA, hm]
      congr 1
      rw [Nat.mul_left_comm]
    have ht : b * (a % 2 ^ (i + 1)) * 2 ^ (8 - (i + 1)) = m + b * (A % 2) * 128 := by
      rw [e2, ← hA, hm, Nat.mul_add, Nat.add_mul]
      congr 1
      rw [← e3]
      ac_rfl
    rw [ht, e1, hp, ← hA]
    have hq : (A + 2 * m) % 2 = A % 2 := by omega
    rw [hq]
    obtain ⟨c, hc⟩ : ∃ c, c = A % 2 := ⟨_, rfl⟩
    have : c = 0 ∨ c = 1 := by omega
    rw [← hc]
    rcases this with rfl | rfl
    · simp; omega
    · simp; omega

theorem prodN_8 (a b : Nat) (ha : a < 256) : prodN a b 8 = a * b := by
  rw [prodN_eq a b 8 (by omega)]
  have h1 : a / 2 ^ 8 = 0 := by simp; omega
  have h2 : a % 2 ^ 8 = a := by simp; omega
  rw [h1, h2]
  simp [Nat.mul_comm]

theorem prodN_lt (a b : Nat) (ha : a < 256) (hb : b < 256) : ∀ i, prodN a b i < 65536
  | 0 => by unfold prodN; omega
  | i + 1 => by
    have ih := prodN_lt a b ha hb i
    unfold prodN
    have : prodN a b i % 2 = 0 ∨ prodN a b i % 2 = 1 := by omega
    rcases this with h1 | h1 <;> rw [h1] <;> omega

set_option maxRecDepth 8000 in
/-- One round: bytes. -/
theorem prodN_step (a b i hi lo s : Nat) (hh : hi * 256 + lo = prodN a b i) (hl : lo < 256) (hs : s = hi + lo % 2 * b) : s / 2 * 256 + (lo / 2 + s % 2 * 128) = prodN a b (i + 1) := by
  show _ = (prodN a b i + prodN a b i % 2 * b * 256) / 2
  generalize prodN a b i = n at hh ⊢
  have h0 : n % 2 = lo % 2 := by omega
  rw [h0]
  obtain ⟨c, hc⟩ : ∃ c, c = lo % 2 := ⟨_, rfl⟩
  rw [← hc] at hs ⊢
  have hc2 : c = 0 ∨ c = 1 := by omega
  rcases hc2 with rfl | rfl
  · rw [Nat.zero_mul] at hs ⊢
    rw [← hh, hs]
    clear hs hh h0
    obtain ⟨x, y, hx, hy⟩ : ∃ x y, hi = 2 * x + y ∧ y < 2 := ⟨hi / 2, hi % 2, by omega, by omega⟩
    obtain ⟨u, hu⟩ : ∃ u, lo = 2 * u := ⟨lo / 2, by omega⟩
    subst hx hu
    omega
  · rw [Nat.one_mul] at hs ⊢
    rw [← hh]
    clear hh h0
    obtain ⟨u, hu⟩ : ∃ u, lo = 2 * u + 1 := ⟨lo / 2, by omega⟩
    obtain ⟨x, y, hx, hy⟩ : ∃ x y, s = 2 * x + y ∧ y < 2 := ⟨s / 2, s % 2, by omega, by omega⟩
    have e : hi * 256 + lo + b * 256 = s * 256 + lo := by rw [hs]; omega
    rw [e]
    have e1 : s / 2 = x := by omega
    have e2 : s % 2 = y := by omega
    have e3 : lo / 2 = u := by omega
    have e4 : s * 256 + lo = 2 * (x * 256 + (u + y * 128)) + 1 := by rw [hx, hu]; omega
    rw [e1, e2, e3, e4]
    omega
end Go.Proofs.Ytgkbpdcedighcab
