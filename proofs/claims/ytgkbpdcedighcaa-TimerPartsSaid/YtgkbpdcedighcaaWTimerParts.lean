/-
  The walk of the law TimerParts.
-/
import Derived.Test.YtgkbpdcedighcaaTimerL
import Derived.Test.YtgkbpdcedighcaaOpen
namespace Go.Proofs.Ytgkbpdcedighcaa
open Go.RowKit Go.Sort

set_option maxHeartbeats 1000000 in
theorem TimerParts_walk (w : World) (rel : Int) (wr : (Lit.int .u8 rel).wf = true) (start : Int) (ws : (Lit.int .u8 start).wf = true) (a : Int) (wa : (Lit.int .u32 a).wf = true) (b : Int) (wb : (Lit.int .u32 b).wf = true) :
    Calls Try.prog 9 #[.int .u8 rel, .int .u8 start, .int .u32 a, .int .u32 b] w fun e w' => e = .returned (.bool true) ∧ Below w.heap.size w w' := by
  have hr := wf_bounds_u8 wr
  have hs := wf_bounds_u8 ws
  have ha := wf_bounds_u32 wa
  have hb := wf_bounds_u32 wb
  clear wr ws wa wb
  go_enter Try.func9, Try.ntmps9
  go_wp2_with fail
  refine (live09_any _).mono ?_
  rintro e w0 ⟨rfl, hB0⟩
  go_wp2_with fail
  refine (New_any _).mono ?_
  rintro e w1 ⟨t, rfl, ht, hA1, hB1'⟩
  have hB1 := step_below hB0 hB1'
  have htw : w.heap.size ≤ t := Nat.le_trans hB0.size ht
  clear hB0 hB1' ht
  go_wp2_with fail
  refine (Write0_any t _ _ _ _ start w1 hA1 (by decide) hs.1 hs.2).mono ?_
  rintro e w2 ⟨rfl, hA2, hU2⟩
  have hB2 := step_upd hB1 hU2 htw
  clear hA1 hB1 hU2
  go_wp2_with fail
  refine (Write1_any t _ _ _ _ 1 w2 hA2 (by decide) (by decide) (by decide)).mono ?_
  rintro e w3 ⟨rfl, hA3', hU3⟩
  have hA3 : At w3 t 115 (tk (start % 128) (start % 128) true 3072) := hA3'
  have hB3 := step_upd hB2 hU3 htw
  clear hA2 hB2 hU3 hA3'
  go_wp2_with fail
  refine (Write0_any t _ _ _ _ rel w3 hA3 (by decide) hr.1 hr.2).mono ?_
  rintro e w4 ⟨rfl, hA4, hU4⟩
  have hB4 := step_upd hB3 hU4 htw
  clear hA3 hB3 hU4
  go_wp2_with fail
  refine (Clone_any t _ _ _ _ w4 hA4).mono ?_
  rintro e w5 ⟨u, rfl, hu, hD5, hB5'⟩
  have hA5 := hA4.below hB5' hA4.lt
  have htu : t ≠ u := by have := hA4.lt; omega
  have huw : w.heap.size ≤ u := Nat.le_trans hB4.size hu
  have hB5 := step_below hB4 hB5'
  clear hA4 hB4 hB5' hu
  have r0 : 0 ≤ rel % 128 ∧ rel % 128 ≤ 127 := by omega
  have s0 : 0 ≤ start % 128 ∧ start % 128 ≤ 127 := by omega
  generalize rel % 128 = r at *
  generalize start % 128 = c at *
  have hp := Lib.hid (parts r c 3072 a b r0.1 r0.2 s0.1 s0.2 (by decide) (by decide) ha.1 hb.1)
  have hbd := e_bd r c 3072 a r0.1 r0.2 s0.1 s0.2 (by decide) (by decide)
  have ho1 := eO_bd r c 3072 a r0.1 s0.1 (by decide)
  have ho2 := eO_bd r (eC r c 3072 a) (eL 3072 a) b r0.1 hbd.1 hbd.2.2.1
  go_wp2_with fail
  refine (Go_e t r c 3072 (a + b) w5 hA5 r0.1 r0.2 s0.1 s0.2 (by decide) (by decide) (by omega)).mono ?_
  rw [hp.out.1, hp.out.2.1, hp.out.2.2]
  rintro e w6 ⟨rfl, hA6, hU6⟩
  have hD6 := hD5.upd hU6 (fun h => htu h.symm)
  have hB6 := step_upd hB5 hU6 htw
  clear hA5 hD5 hB5 hU6
  go_wp2_with fail
  refine (Go_e u r c 3072 a w6 hD6 r0.1 r0.2 s0.1 s0.2 (by decide) (by decide) (by omega)).mono ?_
  rintro e w7 ⟨rfl, hD7, hU7⟩
  have hA7 := hA6.upd hU7 htu
  have hB7 := step_upd hB6 hU7 huw
  clear hA6 hD6 hB6 hU7
  go_wp2_with fail
  refine (Go_e u r _ _ b w7 hD7 r0.1 r0.2 hbd.1 hbd.2.1 hbd.2.2.1 hbd.2.2.2 (by omega)).mono ?_
  rintro e w8 ⟨rfl, hD8, hU8⟩
  have hA8 := hA7.upd hU8 htu
  have hB8 := step_upd hB7 hU8 huw
  clear hA7 hD7 hB7 hU8
  go_wp2_with (first
    | (go_at_call_of 41 (Value.pointer (some ⟨t, 0, none⟩)); refine (Cnt_any _ _ _ _ _ _ hA8).mono ?_; rintro e w' ⟨rfl, rfl⟩)
    | (go_at_call 41; refine (Cnt_any _ _ _ _ _ _ hD8).mono ?_; rintro e w' ⟨rfl, rfl⟩)
    | (go_at_call_of 42 (Value.pointer (some ⟨t, 0, none⟩)); refine (Left_any _ _ _ _ _ _ hA8).mono ?_; rintro e w' ⟨rfl, rfl⟩)
    | (go_at_call 42; refine (Left_any _ _ _ _ _ _ hD8).mono ?_; rintro e w' ⟨rfl, rfl⟩))
  go_ret
  exact ⟨rfl, hB8⟩
end Go.Proofs.Ytgkbpdcedighcaa
