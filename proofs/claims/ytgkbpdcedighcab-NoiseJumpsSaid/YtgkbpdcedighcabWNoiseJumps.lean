/-
  The walk of the law NoiseJumps.
-/
import Derived.Test.YtgkbpdcedighcabNoiseV
import Derived.Test.YtgkbpdcedighcabOpenS
namespace Go.Proofs.Ytgkbpdcedighcab
open Go.RowKit Go.Sort NoiseP

theorem jump_away (s : Nat) (a b : Int) : jumpN (jumpN (jumpN s a) b) (-b) = jumpN s a := by
  rw [jumpN_add, show b + -b = 0 by omega, jumpN_add, Int.add_zero]

theorem tdiv4 (a : Int) (h : -9223372036854775808 ≤ a ∧ a ≤ 9223372036854775807) : ∃ x, a.tdiv 4 = x ∧ -2305843009213693952 ≤ x ∧ x ≤ 2305843009213693952 := by
  refine ⟨_, rfl, ?_⟩
  rcases Int.le_total 0 a with h0 | h0
  · rw [Int.tdiv_eq_ediv_of_nonneg h0]; omega
  · obtain ⟨b, rfl⟩ : ∃ b, a = -b := ⟨-a, by omega⟩
    rw [Int.neg_tdiv, Int.tdiv_eq_ediv_of_nonneg (by omega)]; omega

set_option maxHeartbeats 2000000 in
theorem NoiseJumps_walk (w : World) (s0 : Int) (hs0 : (Lit.int .u32 s0).wf = true) (a0 : Int) (ha0 : (Lit.int .i64 a0).wf = true) (b0 : Int) (hb0 : (Lit.int .i64 b0).wf = true) :
    Calls Try.prog 9 #[.int .u32 s0, .int .i64 a0, .int .i64 b0] w fun e w' => e = .returned (.bool true) ∧ Below w.heap.size w w' := by
  obtain ⟨hs1, hs2⟩ := wf_bounds_u32 hs0
  obtain ⟨a, ha, ha1, ha2⟩ := tdiv4 a0 (wf_bounds_i64 ha0)
  obtain ⟨b, hb, hb1, hb2⟩ := tdiv4 b0 (wf_bounds_i64 hb0)
  obtain ⟨s, rfl⟩ : ∃ s : Nat, s0 = (s : Int) := ⟨s0.toNat, by omega⟩
  have hs3 : s < 4294967296 := by omega
  clear hs0 ha0 hb0 hs1 hs2
  go_enter Try.func9, Try.ntmps9
  go_wp2_with fail
  refine (live13_any _).mono ?_
  rintro e w1 ⟨rfl, hB1⟩
  go_wp2_with fail
  refine (Jump_any s a w1 hs3 (by omega)).mono ?_
  rintro e w2 ⟨rfl, hb2⟩
  have hB2 := step_below hB1 hb2
  have hj := jumpN_lt s a
  clear hb2 hB1
  go_wp2_with fail
  refine (Jump_any (jumpN s a) b w2 (by omega) (by omega)).mono ?_
  rintro e w3 ⟨rfl, hb3⟩
  have hB3 := step_below hB2 hb3
  have hj2 := jumpN_lt (jumpN s a) b
  clear hb3 hB2
  go_wp2_with fail
  refine (Jump_any s (a + b) w3 hs3 (by omega)).mono ?_
  rintro e w4 ⟨rfl, hb4⟩
  rw [← jumpN_add]
  have hB4 := step_below hB3 hb4
  clear hb4 hB3
  go_wp2_with fail
  refine (Jump_any (jumpN (jumpN s a) b) (-b) w4 (by omega) (by omega)).mono ?_
  rintro e w5 ⟨rfl, hb5⟩
  rw [jump_away]
  have hB5 := step_below hB4 hb5
  clear hb5 hB4
  go_wp2_with fail
  refine (Jump_any s a w5 hs3 (by omega)).mono ?_
  rintro e w6 ⟨rfl, hb6⟩
  have hB6 := step_below hB5 hb6
  clear hb6 hB5
  go_wp2
  go_ret
  exact ⟨rfl, hB6⟩
end Go.Proofs.Ytgkbpdcedighcab
