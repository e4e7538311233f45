/-
  The walk of the law NoiseGoes.
-/
import Derived.Test.YtgkbpdcedighcabNoiseX
namespace Go.Proofs.Ytgkbpdcedighcab
open Go.RowKit Go.Sort NoiseP

set_option maxRecDepth 100000 in
set_option maxHeartbeats 4000000 in
theorem NoiseGoes_walk (w : World) (f : Int) (hf0 : (Lit.int .u8 f).wf = true) (a1 : Option Addr) (len1 cap1 : Nat) (F1 : Nat → List Value) (s1 : SlR w a1 len1 cap1 3 IsStep13 F1)
    (a2 : Option Addr) (len2 cap2 : Nat) (F2 : Nat → List Value) (s2 : SlR w a2 len2 cap2 3 IsStep13 F2) :
    Calls Try.prog 11 #[.int .u8 f, .slice a1 len1 cap1, .slice a2 len2 cap2] w fun e w' => e = .returned (.bool true) ∧ Below w.heap.size w w' := by
  have hf := wf_bounds_u8 hf0
  have hm1 := s1.max
  have hle1 := s1.le
  have hm2 := s2.max
  have hle2 := s2.le
  unfold maxLen at hm1 hm2
  obtain ⟨x1, y1, z1, h1⟩ := steps13 s1
  obtain ⟨x2, y2, z2, h2⟩ := steps13 s2
  have H1 := Lib.hid h1
  have H2 := Lib.hid h2
  clear s1 s2 h1 h2 hf0
  by_cases g1 : 60 < len1
  · go_enter Try.func11, Try.ntmps11
    go_wp2_with fail
    refine (live13_any _).mono ?_
    rintro e w0 ⟨rfl, hB0⟩
    go_wp2
    go_ret
    exact ⟨rfl, hB0⟩
  · by_cases g2 : 60 < len2
    · go_enter Try.func11, Try.ntmps11
      go_wp2_with fail
      refine (live13_any _).mono ?_
      rintro e w0 ⟨rfl, hB0⟩
      go_wp2
      go_ret
      exact ⟨rfl, hB0⟩
    · go_enter Try.func11, Try.ntmps11
      go_wp2_with fail
      refine (live13_any _).mono ?_
      rintro e w0 ⟨rfl, hB0⟩
      go_wp2_with fail
      refine (Period_any f w0 hf.1 hf.2).mono ?_
      rintro e _ ⟨rfl, rfl⟩
      go_wp2_with fail
      refine (RPeriod_any f w0 hf.1 hf.2).mono ?_
      rintro e _ ⟨rfl, rfl⟩
      go_wp2_with fail
      refine (New_any f w0 hf.1 hf.2).mono ?_
      rintro e w1 ⟨x, rfl, hx, hX1, hb1⟩
      have hB1 := step_below hB0 hb1
      have hx0 : w.heap.size ≤ x := Nat.le_trans hB0.size hx
      clear hB0 hb1 hx
      go_wp2_with fail
      refine (RNew_any f w1 hf.1 hf.2).mono ?_
      rintro e w2 ⟨v, rfl, hv, hV2, hb2⟩
      have hX2 := hX1.below hb2 hX1.lt
      have hB2 := step_below hB1 hb2
      have hv0 : w.heap.size ≤ v := Nat.le_trans hB1.size hv
      have HI2 : Hid (NI w2 x v) := Lib.hid ⟨1, perI f, f, hX2, hV2, by omega, perI_pos f, hf⟩
      have K1 := Lib.hid (H1.out.below hB2)
      clear hX1 hV2 hX2 hB1 hb2 hv
      go_wp2_with fail
      refine (play13_any x v a1 len1 cap1 x1 y1 z1 w2 HI2.out K1.out (by omega) (fun b' off ha hn => by have := H1.out.lt hn ha; omega)).mono ?_
      rintro e w3 ⟨rfl, HI3, hU3⟩
      have hB3 : Below w.heap.size w w3 := hU3.to hB2 hB2.size (fun b h => by rcases h with rfl | rfl <;> omega)
      clear hU3 hB2 HI2 K1
      obtain ⟨s, l, f3, hX3, hV3, hs, hl, hf3⟩ := HI3
      go_wp2_with fail
      refine (Clone_any x s l (perI f3) w3 hX3).mono ?_
      rintro e w4 ⟨y, rfl, hy, hY4, hb4⟩
      have hX4 := hX3.below hb4 hX3.lt
      have hV4 := hV3.below hb4 hV3.lt
      have hB4 := step_below hB3 hb4
      have hy0 : w.heap.size ≤ y := Nat.le_trans hB3.size hy
      have hxy : x ≠ y := by have := hX3.lt; omega
      have hvy : v ≠ y := by have := hV3.lt; omega
      clear hX3 hV3 hB3 hb4 hy
      go_wp2_with fail
      refine (RCopy_any v s l f3 w4 hV4).mono ?_
      rintro e w5 ⟨u, rfl, hu, hU5, hb5⟩
      have hX5 := hX4.below hb5 hX4.lt
      have hV5 := hV4.below hb5 hV4.lt
      have hY5 := hY4.below hb5 hY4.lt
      have hB5 := step_below hB4 hb5
      have hu0 : w.heap.size ≤ u := Nat.le_trans hB4.size hu
      have hxu : x ≠ u := by have := hX4.lt; omega
      have hvu : v ≠ u := by have := hV4.lt; omega
      clear hX4 hV4 hB4 hb5 hu hY4
      have HI5 : Hid (NI w5.drew y u) := Lib.hid ⟨s, l, f3, hY5.drew, hU5.drew, hs, hl, hf3⟩
      have k2 : Steps13 w5 a2 len2 x2 y2 z2 := H2.out.below hB5
      have K2 : Hid (Steps13 w5.drew a2 len2 x2 y2 z2) := Lib.hid k2
      clear k2
      have HX := Lib.hid hX5.drew
      have HV := Lib.hid hV5.drew
      have HB : Hid (Below w.heap.size w w5.drew) := Lib.hid ⟨hB5.os, hB5.tape, hB5.output, hB5.size, hB5.block⟩
      clear hX5 hV5 hY5 hU5 hB5
      go_wp2_with fail
      go_region_with (first
        | (go_at_call 41; refine (play13_any y u a2 len2 cap2 x2 y2 z2 _ HI5.out K2.out (by omega) (fun b' off ha hn => by have := H2.out.lt hn ha; omega)).mono ?_; rintro e w6 ⟨rfl, -, hU6⟩; have hX6 := HX.out.upd hU6 (fun h => by rcases h with h | h; exact hxy h; exact hxu h); have hV6 := HV.out.upd hU6 (fun h => by rcases h with h | h; exact hvy h; exact hvu h); have q0 := hV6.cell 0 rfl; have q1 := hV6.cell 1 rfl)
        | (go_at_call 44; refine (State_any _ _ _ _ _ hX6).mono ?_; rintro e _ ⟨rfl, rfl⟩)
        | (go_at_call 45; refine (Left_any _ _ _ _ _ hX6).mono ?_; rintro e _ ⟨rfl, rfl⟩))
      all_goals
        go_wp2
        go_ret
        exact ⟨rfl, hU6.to HB.out HB.out.size (fun b h => by rcases h with rfl | rfl <;> omega)⟩
end Go.Proofs.Ytgkbpdcedighcab
