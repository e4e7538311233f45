/-
  The walk of the law NoiseLinear.
-/
import Derived.Test.YtgkbpdcedighcabNoiseV
import Derived.Test.YtgkbpdcedighcabOpenS
namespace Go.Proofs.Ytgkbpdcedighcab
open Go.RowKit Go.Sort NoiseP

set_option maxHeartbeats 2000000 in
theorem NoiseLinear_walk (w : World) (s0 : Int) (hs0 : (Lit.int .u32 s0).wf = true) (t0 : Int) (ht0 : (Lit.int .u32 t0).wf = true) (n : Int) (hn0 : (Lit.int .i64 n).wf = true) :
    Calls Try.prog 10 #[.int .u32 s0, .int .u32 t0, .int .i64 n] w fun e w' => e = .returned (.bool true) ∧ Below w.heap.size w w' := by
  obtain ⟨hs1, hs2⟩ := wf_bounds_u32 hs0
  obtain ⟨ht1, ht2⟩ := wf_bounds_u32 ht0
  have hn := wf_bounds_i64 hn0
  obtain ⟨s, rfl⟩ : ∃ s : Nat, s0 = (s : Int) := ⟨s0.toNat, by omega⟩
  obtain ⟨t, rfl⟩ : ∃ t : Nat, t0 = (t : Int) := ⟨t0.toNat, by omega⟩
  have hs3 : s < 4294967296 := by omega
  have ht3 : t < 4294967296 := by omega
  have hx := u32_xor s t hs3 ht3
  have hx3 := xor_lt32 hs3 ht3
  have hjs := jumpN_lt s n
  have hjt := jumpN_lt t n
  have hx2 := u32_xor (jumpN s n) (jumpN t n) (by omega) (by omega)
  rw [← jumpN_xor] at hx2
  have hz := jumpN_zero n
  obtain ⟨x, hxe⟩ : ∃ x, x = s ^^^ t := ⟨_, rfl⟩
  rw [← hxe] at hx hx2 hx3
  clear hs0 ht0 hn0 hs1 hs2 ht1 ht2 hxe
  go_enter Try.func10, Try.ntmps10
  go_wp2_with fail
  refine (live13_any _).mono ?_
  rintro e w1 ⟨rfl, hB1⟩
  go_wp2_with fail
  refine (Jump_any x n w1 hx3 (by omega)).mono ?_
  rintro e w2 ⟨rfl, hb2⟩
  have hB2 := step_below hB1 hb2
  clear hb2 hB1
  go_wp2_with fail
  refine (Jump_any s n w2 hs3 (by omega)).mono ?_
  rintro e w3 ⟨rfl, hb3⟩
  have hB3 := step_below hB2 hb3
  clear hb3 hB2
  go_wp2_with fail
  refine (Jump_any t n w3 ht3 (by omega)).mono ?_
  rintro e w4 ⟨rfl, hb4⟩
  have hB4 := step_below hB3 hb4
  clear hb4 hB3
  go_wp2_with fail
  refine (Jump_any 0 n w4 (by omega) (by omega)).mono ?_
  rintro e w5 ⟨rfl, hb5⟩
  rw [hz]
  have hB5 := step_below hB4 hb5
  clear hb5 hB4
  go_wp2
  go_ret
  exact ⟨rfl, hB5⟩
end Go.Proofs.Ytgkbpdcedighcab
