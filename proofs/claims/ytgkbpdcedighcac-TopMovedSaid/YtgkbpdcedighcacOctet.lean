/-
  The walks of the package octet: mask, Bit.
-/
import Derived.Test.YtgkbpdcedighcacRows
import Derived.Test.YtgkbpdcedighcacRegion
import Derived.WalkKit
import Derived.WalkSpells
import Derived.WalkLawsBesides
import Derived.Outline
namespace Go.Proofs.Ytgkbpdcedighcac
open Go.RowKit Go.Sort

/-- Bit n of b. -/
def bitB (b n : Int) : Bool := decide (0 ≤ n) && decide (n < 8) && decide (b / 2 ^ n.toNat % 2 = 1)
def maskI (n : Int) : Int := if 0 ≤ n ∧ n < 8 then 2 ^ n.toNat else 0

theorem bit_mask_fin : ∀ (b : Fin 256) (n : Fin 8), (bits .and .u8 (b.val : Int) (2 ^ n.val) != 0) = decide ((b.val : Int) / 2 ^ n.val % 2 = 1) := by decide +kernel
theorem bit_mask (b n : Int) (h0 : 0 ≤ b) (h1 : b ≤ 255) : (bits .and .u8 b (maskI n) != 0) = bitB b n := by
  unfold maskI bitB
  obtain ⟨c, rfl⟩ := Int.eq_ofNat_of_zero_le h0
  by_cases hn : 0 ≤ n ∧ n < 8
  · rw [if_pos hn, decide_eq_true hn.1, decide_eq_true hn.2]
    have h := bit_mask_fin ⟨c, by omega⟩ ⟨n.toNat, by omega⟩
    simpa using h
  · rw [if_neg hn]
    have e : bits .and .u8 (c : Int) 0 = 0 := by
      have : ∀ c : Fin 256, bits .and .u8 (c.val : Int) 0 = 0 := by decide +kernel
      exact this ⟨c, by omega⟩
    rw [e]
    rcases (by omega : n < 0 ∨ 8 ≤ n) with h | h
    · have : decide (0 ≤ n) = false := by simp; omega
      simp [this]
    · have : decide (n < 8) = false := by simp; omega
      simp [this]

theorem mask_any (n : Int) (w : World) : Calls Try.prog 103 #[.int .i64 n] w fun e w' => e = .returned (.int .u8 (maskI n)) ∧ w = w' := by
  by_cases h0 : n < 0
  · have e1 : maskI n = 0 := by unfold maskI; rw [if_neg (by omega)]
    rw [e1]; clear e1
    go_enter Try.func103, Try.ntmps103
    go_wp2
    go_ret
    exact ⟨rfl, rfl⟩
  · by_cases h1 : 8 ≤ n
    · have e1 : maskI n = 0 := by unfold maskI; rw [if_neg (by omega)]
      rw [e1]; clear e1
      go_enter Try.func103, Try.ntmps103
      go_wp2
      go_ret
      exact ⟨rfl, rfl⟩
    · rcases (by omega : n = 0 ∨ n = 1 ∨ n = 2 ∨ n = 3 ∨ n = 4 ∨ n = 5 ∨ n = 6 ∨ n = 7) with rfl | rfl | rfl | rfl | rfl | rfl | rfl | rfl
      all_goals
        clear h0 h1
        go_enter Try.func103, Try.ntmps103
        go_wp2
        go_ret
        exact ⟨rfl, rfl⟩

theorem ret_bool {a b : Bool} (h : a = b) : Ending.returned (.bool a) = .returned (.bool b) := by rw [h]

theorem Bit_any (b n : Int) (w : World) (h0 : 0 ≤ b) (h1 : b ≤ 255) : Calls Try.prog 59 #[.int .u8 b, .int .i64 n] w fun e w' => e = .returned (.bool (bitB b n)) ∧ w = w' := by
  go_enter Try.func59, Try.ntmps59
  go_wp2_with fail
  refine (mask_any _ _).mono ?_
  rintro e w' ⟨rfl, rfl⟩
  go_wp2
  go_ret
  exact ⟨ret_bool (bit_mask b n h0 h1), rfl⟩
end Go.Proofs.Ytgkbpdcedighcac
