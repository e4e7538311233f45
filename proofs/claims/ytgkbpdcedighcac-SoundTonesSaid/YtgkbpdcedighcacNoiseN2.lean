/-
  The walks of the reference 13: Next, Jump, Period.
-/
import Derived.Test.YtgkbpdcedighcacNoiseM2
namespace Go.Proofs.Ytgkbpdcedighcac
open Go.RowKit Go.Sort NoiseP

def tapN : Nat → Nat
  | 0 => 0
  | 1 => 1
  | 2 => 11
  | 3 => 12
  | _ => 17
/-- How many of the first i taps are set. -/
def sumN (s : Nat) : Nat → Nat
  | 0 => 0
  | i + 1 => sumN s i + s / 2 ^ tapN i % 2
theorem sumN_le (s : Nat) : ∀ i, sumN s i ≤ i
  | 0 => Nat.le_refl _
  | i + 1 => by
    have := sumN_le s i
    simp only [sumN]
    omega

theorem mod2_xor (a b : Nat) : (a ^^^ b) % 2 = (a % 2 + b % 2) % 2 := by
  have := Nat.xor_mod_two_pow (a := a) (b := b) (n := 1)
  simp only [Nat.pow_one] at this
  rw [this]
  rcases Nat.mod_two_eq_zero_or_one a with h | h <;> rcases Nat.mod_two_eq_zero_or_one b with k | k <;> rw [h, k] <;> rfl
theorem add_par {a b c : Nat} (h : c = (a + b) % 2) (k : c < 2) (h1 : a < 2) (h2 : b < 2) : c = a ^^^ b := by
  subst h
  clear k
  have : a = 0 ∨ a = 1 := by omega
  have : b = 0 ∨ b = 1 := by omega
  rcases ‹a = 0 ∨ a = 1› with rfl | rfl <;> rcases ‹b = 0 ∨ b = 1› with rfl | rfl <;> rfl

theorem sumN_xor (a b : Nat) : ∀ i, sumN (a ^^^ b) i % 2 = (sumN a i + sumN b i) % 2
  | 0 => rfl
  | i + 1 => by
    have ih := sumN_xor a b i
    have h := mod2_xor (a / 2 ^ tapN i) (b / 2 ^ tapN i)
    rw [← div_xor] at h
    simp only [sumN]
    omega

theorem lin_sum : Lin (fun s => sumN s 5 % 2) where
  add a b _ _ := add_par (by rw [sumN_xor]; omega) (Nat.mod_lt _ (by omega)) (Nat.mod_lt _ (by omega)) (Nat.mod_lt _ (by omega))
  zero := by decide
  lt a _ := by have := Nat.mod_lt (sumN a 5) (show 0 < 2 by omega); omega
theorem lin_odd : Lin (fun s => oddN (s &&& 137219)) where
  add a b _ _ := by show oddN ((a ^^^ b) &&& 137219) = _; rw [Nat.and_xor_distrib_right, oddN_xor]
  zero := by decide
  lt a _ := by have := oddN_lt (a &&& 137219); omega

theorem ref_next (s : Nat) : s % 262144 / 2 + sumN (s % 262144) 5 % 2 * 131072 = nextN s := by
  have hs : s % 262144 < 262144 := Nat.mod_lt _ (by omega)
  have e : sumN (s % 262144) 5 % 2 = oddN (s % 262144 &&& 137219) := lin_sum.ext lin_odd (by decide +kernel) _ hs
  rw [← nextN_mod, nextN_eq _ hs, e, ← or_high _ _ (by omega), Nat.or_comm]
  have h := Nat.two_pow_add_eq_or_of_lt (i := 17) (b := s % 262144 / 2) (by omega) (oddN (s % 262144 &&& 137219))
  rw [Nat.mul_comm (oddN _) 131072, show 131072 = 2 ^ 17 from rfl, ← h, Nat.add_comm]

theorem taps_get (i : Nat) (h : i < 5) : [Value.int .i64 0, .int .i64 1, .int .i64 11, .int .i64 12, .int .i64 17][i]? = some (.int .i64 (tapN i : Nat)) := by
  have : i = 0 ∨ i = 1 ∨ i = 2 ∨ i = 3 ∨ i = 4 := by omega
  rcases this with rfl | rfl | rfl | rfl | rfl <;> rfl

set_option maxHeartbeats 1000000 in
theorem RNext_any (s : Nat) (w : World) (hs : s < 4294967296) :
    Calls Try.prog 129 #[.int .u32 (s : Int)] w fun e w' => e = .returned (.int .u32 (nextN s : Nat)) ∧ Below w.heap.size w w' := by
  have hn := ref_next s
  obtain ⟨t, ht⟩ : ∃ t, t = s % 262144 := ⟨_, rfl⟩
  rw [← ht] at hn
  have ht1 : t < 262144 := by omega
  have ht2 : (s : Int) % 262144 = (t : Nat) := by omega
  have HN := Lib.hid hn
  clear hn ht
  go_enter Try.func129, Try.ntmps129
  go_wp2_with fail
  have hA : At (w.alloc (.cells #[.int .i64 0, .int .i64 1, .int .i64 11, .int .i64 12, .int .i64 17] 206)) w.heap.size 206 [.int .i64 0, .int .i64 1, .int .i64 11, .int .i64 12, .int .i64 17] := At.new w _ _
  have hB := Lib.hid ((Below.refl w.heap.size w).alloc (Nat.le_refl _) (.cells #[.int .i64 0, .int .i64 1, .int .i64 11, .int .i64 12, .int .i64 17] 206))
  generalize w.alloc (.cells #[.int .i64 0, .int .i64 1, .int .i64 11, .int .i64 12, .int .i64 17] 206) = w1 at *
  have HA := Lib.hid hA
  clear hA
  rw [ht2]
  go_loop [4, 5, 6, 7] (fun n i _ _ => ∃ k : Nat, k ≤ 5 ∧ i = .int .i64 k ∧ n = .int .u32 (sumN t k : Nat)) (fun _ i _ _ => 5 - (intOf i).toNat)
  case atStart => exact ⟨0, by omega, rfl, rfl⟩
  case round =>
    obtain ⟨k, hk, rfl, rfl⟩ := hrel
    by_cases hlt : k < 5
    · have hc := HA.out.cell k (taps_get k hlt)
      have hs2 := sumN_le t k
      go_wp2_with fail
      obtain ⟨m, hm⟩ : ∃ m, m = tapN k := ⟨_, rfl⟩
      have hm17 : m ≤ 17 := by rw [hm]; unfold tapN; split <;> omega
      rw [← hm] at hc
      have HM := Lib.hid hm
      clear hm
      go_loop [6, 7] (fun x j => ∃ i : Nat, i ≤ m ∧ j = .int .i64 i ∧ x = .int .u32 (t / 2 ^ i : Nat)) (fun _ j => m - (intOf j).toNat)
      case atStart => exact ⟨0, by omega, rfl, by rw [Nat.pow_zero, Nat.div_one]⟩
      case round =>
        obtain ⟨i, hi, rfl, rfl⟩ := hrel
        obtain ⟨y, hy⟩ : ∃ y, y = t / 2 ^ i := ⟨_, rfl⟩
        have hy2 : t / 2 ^ (i + 1) = y / 2 := by rw [Nat.pow_succ, ← Nat.div_div_eq_div_mul, hy]
        have hy3 : y ≤ t := hy ▸ Nat.div_le_self _ _
        rw [← hy]
        by_cases hlt2 : i < m
        · have HY := Lib.hid hy2
          clear hy2 hy
          go_wp2
          go_round
          case rel => exact ⟨i + 1, by omega, by go_num, by rw [HY.out]; go_num⟩
          case measure => simp [intOf]; omega
        · obtain rfl : i = m := by omega
          have HS := Lib.hid (show sumN t (k + 1) = sumN t k + y % 2 by rw [hy, HM.out]; rfl)
          clear hy2 hy
          go_wp2
          go_round
          case rel => exact ⟨k + 1, by omega, by go_num, by rw [HS.out]; go_num⟩
          case measure => simp [intOf]; omega
    · obtain rfl : k = 5 := by omega
      have hs2 := sumN_le t 5
      go_wp2
      go_ret
      exact ⟨by rw [← HN.out]; go_num, hB.out⟩

theorem RPeriod_any (f : Int) (w : World) (h0 : 0 ≤ f) (h1 : f ≤ 255) :
    Calls Try.prog 112 #[.int .u8 f] w fun e w' => e = .returned (.int .i64 (perI f)) ∧ w = w' := by
  by_cases h2 : f % 32 = 31
  · rw [perI, if_pos h2]
    go_enter Try.func112, Try.ntmps112
    go_wp2
    go_ret
    exact ⟨rfl, rfl⟩
  · rw [perI, if_neg h2]
    have h3 : decide (64 * (31 - f % 32) = 0) = false := by simp; omega
    go_enter Try.func112, Try.ntmps112
    go_wp2
    go_ret
    exact ⟨rfl, rfl⟩
end Go.Proofs.Ytgkbpdcedighcac
