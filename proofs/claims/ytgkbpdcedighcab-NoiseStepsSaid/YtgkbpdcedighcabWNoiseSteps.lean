/-
  The walk of the law NoiseSteps.
-/
import Derived.Test.YtgkbpdcedighcabNoiseV
import Derived.Test.YtgkbpdcedighcabOpenS
namespace Go.Proofs.Ytgkbpdcedighcab
open Go.RowKit Go.Sort NoiseP

theorem back_next_mod (s : Nat) : backN (nextN s) = s % 262144 := by
  rw [← nextN_mod]; exact back_next _ (Nat.mod_lt _ (by omega))
theorem next_back_mod (s : Nat) : nextN (backN s) = s % 262144 := by
  rw [← backN_mod]; exact next_back _ (Nat.mod_lt _ (by omega))
theorem nextN_lt (s : Nat) : nextN s < 262144 := by rw [← nextN_mod]; exact lin_next.lt _ (Nat.mod_lt _ (by omega))
theorem backN_lt (s : Nat) : backN s < 262144 := by rw [← backN_mod]; exact lin_back.lt _ (Nat.mod_lt _ (by omega))
theorem jump_back (s : Nat) (n : Int) : jumpN (jumpN s n) (-n) = s % 262144 := by
  rw [jumpN_add, show n + -n = 0 by omega]; rfl

set_option maxHeartbeats 2000000 in
theorem NoiseSteps_walk (w : World) (s0 : Int) (hs0 : (Lit.int .u32 s0).wf = true) (n0 : Int) (hn0 : (Lit.int .u16 n0).wf = true) :
    Calls Try.prog 8 #[.int .u32 s0, .int .u16 n0] w fun e w' => e = .returned (.bool true) ∧ Below w.heap.size w w' := by
  obtain ⟨hs1, hs2⟩ := wf_bounds_u32 hs0
  obtain ⟨hn1, hn2⟩ := wf_bounds_u16 hn0
  obtain ⟨s, rfl⟩ : ∃ s : Nat, s0 = (s : Int) := ⟨s0.toNat, by omega⟩
  obtain ⟨k, hk⟩ : ∃ k : Nat, n0 % 2000 = (k : Int) := ⟨(n0 % 2000).toNat, by omega⟩
  have hs3 : s < 4294967296 := by omega
  have hk2 : k < 2000 := by omega
  obtain ⟨t, ht⟩ : ∃ t, t = s % 262144 := ⟨_, rfl⟩
  have hm : (s : Int) % 262144 = (t : Int) := by omega
  have HT := Lib.hid ht
  clear hs0 hn0 hs1 hs2 ht
  go_enter Try.func8, Try.ntmps8
  go_wp2_with fail
  refine (live13_any _).mono ?_
  rintro e w1 ⟨rfl, hB1⟩
  go_wp2_with fail
  rw [hk]
  refine (RJump_any s k w1 hs3 (by omega)).mono ?_
  rintro e w2 ⟨rfl, hb2⟩
  have hB2 := step_below hB1 hb2
  clear hb2 hB1
  go_wp2_with fail
  refine (Next_any s w2 hs3).mono ?_
  rintro e _ ⟨rfl, rfl⟩
  go_wp2_with fail
  refine (RNext_any s w2 hs3).mono ?_
  rintro e w3 ⟨rfl, hb3⟩
  have hB3 := step_below hB2 hb3
  clear hb3 hB2
  go_wp2_with fail
  refine (Jump_any s k w3 hs3 (by omega)).mono ?_
  rintro e w4 ⟨rfl, hb4⟩
  have hB4 := step_below hB3 hb4
  have hj := jumpN_lt s k
  clear hb4 hB3
  go_wp2_with fail
  refine (Jump_any (jumpN s k) (-k) w4 (by omega) (by omega)).mono ?_
  rintro e w5 ⟨rfl, hb5⟩
  rw [jump_back, ← HT.out]
  have hB5 := step_below hB4 hb5
  clear hb5 hB4
  go_wp2_with fail
  refine (Next_any s w5 hs3).mono ?_
  rintro e _ ⟨rfl, rfl⟩
  go_wp2_with fail
  refine (Back_any (nextN s) w5 (by have := nextN_lt s; omega)).mono ?_
  rintro e _ ⟨rfl, rfl⟩
  rw [back_next_mod, ← HT.out]
  go_wp2_with fail
  refine (Back_any s w5 hs3).mono ?_
  rintro e _ ⟨rfl, rfl⟩
  go_wp2_with fail
  refine (Next_any (backN s) w5 (by have := backN_lt s; omega)).mono ?_
  rintro e _ ⟨rfl, rfl⟩
  rw [next_back_mod, ← HT.out]
  go_wp2
  go_ret
  exact ⟨rfl, hB5⟩
end Go.Proofs.Ytgkbpdcedighcab
