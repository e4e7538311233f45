/-
  The walks of the reference 16: Loss, Power.
-/
import Derived.Test.YtgkbpdcedighcacMix
namespace Go.Proofs.Ytgkbpdcedighcac
open Go.RowKit Go.Sort

theorem RLoss_any (v b m : Nat) (w : World) (hv : v < 256) (hb : b < 256) (hm : m < 256) : Calls Try.prog 18 #[.int .u8 (v : Int), .int .u8 (b : Int), .int .u8 (m : Int)] w fun e w' => e = .returned (.int .i64 (lossZ v b m)) ∧ w = w' := by
  have e1 : (v : Int).tmod 32 = ((v % 32 : Nat) : Int) := by rw [Int.tmod_eq_emod_of_nonneg (by omega)]; rfl
  have e2 : (b : Int).tmod 16 = ((b % 16 : Nat) : Int) := by rw [Int.tmod_eq_emod_of_nonneg (by omega)]; rfl
  have e3 : (m : Int).tmod 16 = ((m % 16 : Nat) : Int) := by rw [Int.tmod_eq_emod_of_nonneg (by omega)]; rfl
  have HZ : Hid (lossZ v b m = 31 - ((v % 32 : Nat) : Int) + 2 * (15 - ((b % 16 : Nat) : Int)) + 2 * (15 - ((m % 16 : Nat) : Int))) := Lib.hid rfl
  have h1 : v % 32 < 32 := by omega
  have h2 : b % 16 < 16 := by omega
  have h3 : m % 16 < 16 := by omega
  generalize v % 32 = q at *
  generalize b % 16 = r at *
  generalize m % 16 = s at *
  go_enter Try.func18, Try.ntmps18
  go_wp2
  go_ret
  exact ⟨by rw [HZ.out]; rfl, rfl⟩

theorem half_pow (t q : Nat) : t / 2 ^ q / 2 = t / 2 ^ (q + 1) := by rw [Nat.div_div_eq_div_mul, Nat.pow_succ]

set_option maxRecDepth 100000 in
set_option maxHeartbeats 2000000 in
theorem RPower_any (l : Int) (w : World) : Calls Try.prog 19 #[.int .i64 l] w fun e w' => e = .returned (.int .i64 (powZ l)) ∧ Below w.heap.size w w' := by
  have HZ : Hid (powZ l = if l < 0 then 4096 else if 48 ≤ l then 0 else ((powT (l.toNat % 4) / 2 ^ (l.toNat / 4) : Nat) : Int)) := Lib.hid rfl
  by_cases h0 : l < 0
  · have d0 : decide (l < 0) = true := decide_eq_true h0
    go_enter Try.func19, Try.ntmps19
    go_wp2
    go_ret
    exact ⟨by rw [HZ.out, if_pos h0]; rfl, (Below.refl _ _).alloc (Nat.le_refl _) _⟩
  · have d0 : decide (l < 0) = false := decide_eq_false h0
    by_cases h1 : 48 ≤ l
    · have d1 : decide (48 ≤ l) = true := decide_eq_true h1
      go_enter Try.func19, Try.ntmps19
      go_wp2
      go_ret
      exact ⟨by rw [HZ.out, if_neg (Int.not_lt.2 h0), if_pos h1]; rfl, (Below.refl _ _).alloc (Nat.le_refl _) _⟩
    · have d1 : decide (48 ≤ l) = false := decide_eq_false h1
      obtain ⟨n, rfl⟩ : ∃ n : Nat, l = n := ⟨l.toNat, by omega⟩
      have m1 : (n : Int).tmod 4 = ((n % 4 : Nat) : Int) := by rw [Int.tmod_eq_emod_of_nonneg (by omega)]; rfl
      have m2 : (n : Int).tdiv 4 = ((n / 4 : Nat) : Int) := by rw [Int.tdiv_eq_ediv_of_nonneg (by omega)]; rfl
      have HZ2 : Hid (powZ n = ((powT (n % 4) / 2 ^ (n / 4) : Nat) : Int)) := Lib.hid (by rw [HZ.out, if_neg h0, if_neg h1]; rfl)
      have hr : n % 4 < 4 := by omega
      have hq : n / 4 < 12 := by omega
      have ht := powT_le (n % 4)
      generalize n % 4 = r at *
      generalize n / 4 = q at *
      obtain ⟨t, ht2⟩ : ∃ t, t = powT r := ⟨_, rfl⟩
      rw [← ht2] at HZ2 ht
      have HT := Lib.hid ht2
      clear ht2
      have hr' : r = 0 ∨ r = 1 ∨ r = 2 ∨ r = 3 := by omega
      rcases hr' with rfl | rfl | rfl | rfl
      all_goals
        go_enter Try.func19, Try.ntmps19
        go_wp2_with fail
        go_loopw [4, 5] (fun v i wr => ∃ k : Nat, k ≤ q ∧ i = .int .i64 k ∧ v = .int .i64 ((t / 2 ^ k : Nat) : Int) ∧ Hid (Below w.heap.size w wr)) (fun _ i _ => q - (intOf i).toNat)
        case atStart => exact ⟨0, by omega, rfl, by rw [HT.out]; rfl, Lib.hid ((Below.refl _ _).alloc (Nat.le_refl _) _)⟩
        case round =>
          obtain ⟨k, hk, rfl, rfl, HB⟩ := hrel
          by_cases hlt : k < q
          · have hx : t / 2 ^ k ≤ 4096 := Nat.le_trans (Nat.div_le_self _ _) ht
            have HX : Hid (t / 2 ^ k / 2 = t / 2 ^ (k + 1)) := Lib.hid (half_pow t k)
            generalize t / 2 ^ k = y at *
            have m3 : (y : Int).tdiv 2 = ((y / 2 : Nat) : Int) := by rw [Int.tdiv_eq_ediv_of_nonneg (by omega)]; rfl
            have HY : Hid (((y / 2 : Nat) : Int) = ((t / 2 ^ (k + 1) : Nat) : Int)) := Lib.hid (by rw [HX.out])
            have hz : y / 2 ≤ 4096 := by omega
            generalize y / 2 = z at *
            go_wp2
            go_round
            case rel => exact ⟨k + 1, by omega, by go_num, congrArg (Value.int .i64) HY.out, HB⟩
            case measure => simp [intOf]; omega
          · obtain rfl : k = q := by omega
            generalize t / 2 ^ k = y at *
            go_wp2
            go_ret
            exact ⟨by rw [HZ2.out]; rfl, HB.out⟩
end Go.Proofs.Ytgkbpdcedighcac
