/-
  The walk of the law NoiseFar.
-/
import Derived.Test.YtgkbpdcedighcabNoiseV
import Derived.Test.YtgkbpdcedighcabOpenS
namespace Go.Proofs.Ytgkbpdcedighcab
open Go.RowKit Go.Sort NoiseP

set_option maxHeartbeats 2000000 in
theorem NoiseFar_walk (w : World) (f : Int) (hf0 : (Lit.int .u8 f).wf = true) (a : Int) (ha0 : (Lit.int .u32 a).wf = true) (c : Int) (hc0 : (Lit.int .u32 c).wf = true) :
    Calls Try.prog 12 #[.int .u8 f, .int .u32 a, .int .u32 c] w fun e w' => e = .returned (.bool true) ∧ Below w.heap.size w w' := by
  have hf := wf_bounds_u8 hf0
  have ha := wf_bounds_u32 ha0
  have hc := wf_bounds_u32 hc0
  have hp := perI_pos f
  clear hf0 ha0 hc0
  go_enter Try.func12, Try.ntmps12
  go_wp2_with fail
  refine (live13_any _).mono ?_
  rintro e w1 ⟨rfl, hB1⟩
  go_wp2_with fail
  refine (New_any f w1 hf.1 hf.2).mono ?_
  rintro e w2 ⟨x, rfl, hx, hA2, hb2⟩
  have hB2 := step_below hB1 hb2
  have hx2 : w.heap.size ≤ x := Nat.le_trans hB1.size hx
  clear hB1 hb2 hx
  obtain ⟨p, hpe⟩ : ∃ p, p = perI f := ⟨_, rfl⟩
  rw [← hpe] at hA2 hp
  clear hpe
  go_wp2_with fail
  refine (Clone_any x 1 p p w2 hA2).mono ?_
  rintro e w3 ⟨y, rfl, hy, hY3, hb3⟩
  have hX3 := hA2.below hb3 hA2.lt
  have hB3 := step_below hB2 hb3
  have hy2 : w.heap.size ≤ y := Nat.le_trans hB2.size hy
  have hxy : x ≠ y := by have := hA2.lt; omega
  clear hB2 hb3 hy hA2
  go_wp2_with fail
  refine (Go_any x 1 p p (a + c) w3 hX3 (by omega) hp hp (by omega)).mono ?_
  rintro e w4 ⟨rfl, hX4, hU4⟩
  have hY4 := hY3.upd hU4 (Ne.symm hxy)
  have hB4 := step_upd hB3 hU4 hx2
  clear hB3 hU4 hX3 hY3
  go_wp2_with fail
  refine (Go_any y 1 p p a w4 hY4 (by omega) hp hp (by omega)).mono ?_
  rintro e w5 ⟨rfl, hY5, hU5⟩
  have hX5 := hX4.upd hU5 hxy
  have hB5 := step_upd hB4 hU5 hy2
  clear hB4 hU5 hX4 hY4
  have hs := goS_lt 1 p p a (by omega)
  have hl1 := goL_pos p p a hp.1
  have hl2 := goL_le p p a (by omega) hp.1 hp.2 hp.2
  go_wp2_with fail
  refine (Go_any y (goS 1 p p a) (goL p p a) p c w5 hY5 hs ⟨hl1, hl2⟩ hp (by omega)).mono ?_
  rintro e w6 ⟨rfl, hY6, hU6⟩
  rw [(go_add 1 p p a c hp.1 (by omega)).1, (go_add 1 p p a c hp.1 (by omega)).2] at hY6
  have hX6 := hX5.upd hU6 hxy
  have hB6 := step_upd hB5 hU6 hy2
  clear hB5 hU6 hX5 hY5 hs hl1 hl2
  go_wp2_with fail
  refine (State_any x _ _ _ w6 hX6).mono ?_
  rintro e _ ⟨rfl, rfl⟩
  go_wp2_with fail
  refine (State_any y _ _ _ w6 hY6).mono ?_
  rintro e _ ⟨rfl, rfl⟩
  go_wp2_with fail
  refine (Left_any x _ _ _ w6 hX6).mono ?_
  rintro e _ ⟨rfl, rfl⟩
  go_wp2_with fail
  refine (Left_any y _ _ _ w6 hY6).mono ?_
  rintro e _ ⟨rfl, rfl⟩
  go_wp2
  go_ret
  exact ⟨rfl, hB6⟩
end Go.Proofs.Ytgkbpdcedighcab
