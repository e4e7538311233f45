/-
  The walks of octet.Count, octet.First.
-/
import Derived.Test.YtgkbpdcedighcaaOctet
namespace Go.Proofs.Ytgkbpdcedighcaa
open Go.RowKit Go.Sort

theorem ret_int {k : IntKind} {a b : Int} (h : a = b) : Ending.returned (.int k a) = .returned (.int k b) := by rw [h]

/-- How many bits of b are set, below bit k. -/
def pcB (b : Int) : Nat → Int
  | 0 => 0
  | k + 1 => pcB b k + if bitB b k then 1 else 0

theorem kern_fin : ∀ c : Fin 256, c.val ≠ 0 → (0 ≤ bits .and .u8 (c.val : Int) (c.val - 1) ∧ bits .and .u8 (c.val : Int) (c.val - 1) < c.val ∧ pcB (bits .and .u8 (c.val : Int) (c.val - 1)) 8 + 1 = pcB c.val 8) := by decide +kernel
theorem kern (c : Int) (h0 : 0 < c) (h1 : c ≤ 255) : 0 ≤ bits .and .u8 c (c - 1) ∧ bits .and .u8 c (c - 1) < c ∧ pcB (bits .and .u8 c (c - 1)) 8 + 1 = pcB c 8 := by
  obtain ⟨n, rfl⟩ := Int.eq_ofNat_of_zero_le (by omega : 0 ≤ c)
  exact kern_fin ⟨n, by omega⟩ (by simp; omega)
theorem pcB_zero : pcB 0 8 = 0 := by decide +kernel
theorem pcB_bd (b : Int) (k : Nat) : 0 ≤ pcB b k ∧ pcB b k ≤ k := by
  induction k with
  | zero => simp [pcB]
  | succ k ih => simp only [pcB]; split <;> omega

set_option maxHeartbeats 400000 in
theorem Count_any (b : Int) (w : World) (h0 : 0 ≤ b) (h1 : b ≤ 255) : Calls Try.prog 59 #[.int .u8 b] w fun e w' => e = .returned (.int .i64 (pcB b 8)) ∧ w = w' := by
  have hp := pcB_bd b 8
  obtain ⟨N, hN⟩ : ∃ N, N = pcB b 8 := ⟨_, rfl⟩
  rw [← hN] at hp ⊢
  have HN := Lib.hid hN
  clear hN
  go_enter Try.func59, Try.ntmps59
  go_wp2_with fail
  go_loop [0, 3] (fun x n => ∃ c m : Int, x = .int .u8 c ∧ n = .int .i64 m ∧ 0 ≤ c ∧ c ≤ 255 ∧ 0 ≤ m ∧ m ≤ 8 ∧ Hid (m + pcB c 8 = N)) (fun x _ => (intOf x).toNat)
  case atStart => exact ⟨b, 0, rfl, rfl, h0, h1, by omega, by omega, Lib.hid (by rw [HN.out]; omega)⟩
  case round =>
    obtain ⟨c, m, rfl, rfl, c0, c1, m0, m1, HM⟩ := hrel
    by_cases hc : c = 0
    · subst hc
      go_wp2
      go_ret
      exact ⟨ret_int (by have := HM.out; rw [pcB_zero] at this; omega), rfl⟩
    · have hk := kern c (by omega) c1
      have hb := pcB_bd (bits .and .u8 c (c - 1)) 8
      have hmm : m + 1 ≤ 8 := by have := HM.out; omega
      have HK := Lib.hid hk.2.2
      have hk1 := hk.1
      have hk2 := hk.2.1
      clear hk
      have hne : (c != 0) = true := by simp [hc]
      go_wp2
      go_round
      case rel => exact ⟨_, m + 1, rfl, rfl, hk1, by omega, by omega, hmm, Lib.hid (by have := HM.out; have := HK.out; omega)⟩
      case measure => simp [intOf]; omega

/-- The first bit that is set, from bit k on; -1. -/
def firstB (b : Int) : Nat → Nat → Int
  | 0, _ => -1
  | f + 1, k => if bitB b k then k else firstB b f (k + 1)

theorem firstB_spec (b : Int) (f k : Nat) : (firstB b f k = -1 ∧ ∀ j : Nat, k ≤ j → j < k + f → bitB b j = false) ∨ ∃ j : Nat, firstB b f k = j ∧ k ≤ j ∧ j < k + f ∧ bitB b j = true ∧ ∀ i : Nat, k ≤ i → i < j → bitB b i = false := by
  induction f generalizing k with
  | zero => exact .inl ⟨rfl, fun j h1 h2 => by omega⟩
  | succ f ih =>
    unfold firstB
    by_cases h : bitB b k = true
    · rw [if_pos h]
      exact .inr ⟨k, rfl, Nat.le_refl _, by omega, h, fun i h1 h2 => by omega⟩
    · rw [if_neg h]
      rcases ih (k + 1) with ⟨h1, h2⟩ | ⟨j, h1, h2, h3, h4, h5⟩
      · refine .inl ⟨h1, fun j hj hj' => ?_⟩
        rcases Nat.lt_or_ge k j with hlt | hge
        · exact h2 j hlt (by omega)
        · obtain rfl : j = k := by omega
          simpa using h
      · refine .inr ⟨j, h1, by omega, by omega, h4, fun i hi hi' => ?_⟩
        rcases Nat.lt_or_ge k i with hlt | hge
        · exact h5 i hlt hi'
        · obtain rfl : i = k := by omega
          simpa using h

set_option maxHeartbeats 400000 in
theorem First_any (b : Int) (w : World) (h0 : 0 ≤ b) (h1 : b ≤ 255) : Calls Try.prog 60 #[.int .u8 b] w fun e w' => e = .returned (.int .i64 (firstB b 8 0)) ∧ w = w' := by
  obtain ⟨N, hN⟩ : ∃ N, N = firstB b 8 0 := ⟨_, rfl⟩
  rw [← hN]
  have HN := Lib.hid hN
  clear hN
  go_enter Try.func60, Try.ntmps60
  go_wp2_with fail
  go_loop [3, 4] (fun _ i => ∃ k : Nat, k ≤ 8 ∧ i = .int .i64 k ∧ Hid (firstB b (8 - k) k = N)) (fun _ i => 8 - (intOf i).toNat)
  case atStart => exact ⟨0, by omega, rfl, Lib.hid HN.out.symm⟩
  case round =>
    obtain ⟨k, hk, rfl, HM⟩ := hrel
    by_cases hlt : k < 8
    · cases hb : bitB b k
      · have HB := Lib.hid hb
        clear hb
        go_wp2_with fail
        refine (Bit_any b k _ h0 h1).mono ?_
        rintro e w' ⟨rfl, rfl⟩
        rw [HB.out]
        go_wp2
        go_round
        case rel => exact ⟨k + 1, by omega, by go_num, Lib.hid (by have := HM.out; rw [show 8 - k = (8 - (k + 1)) + 1 by omega, firstB, HB.out] at this; exact this)⟩
        case measure => simp [intOf]; omega
      · have HB := Lib.hid hb
        clear hb
        go_wp2_with fail
        refine (Bit_any b k _ h0 h1).mono ?_
        rintro e w' ⟨rfl, rfl⟩
        rw [HB.out]
        go_wp2
        go_ret
        exact ⟨ret_int (by have := HM.out; rw [show 8 - k = (8 - (k + 1)) + 1 by omega, firstB, HB.out] at this; exact this), rfl⟩
    · obtain rfl : k = 8 := by omega
      go_wp2
      go_ret
      exact ⟨ret_int (by have := HM.out; exact this), rfl⟩
end Go.Proofs.Ytgkbpdcedighcaa
