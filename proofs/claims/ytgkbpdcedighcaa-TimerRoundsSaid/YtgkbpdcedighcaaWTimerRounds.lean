/-
  The walk of the law TimerRounds.
-/
import Derived.Test.YtgkbpdcedighcaaTimerL
import Derived.Test.YtgkbpdcedighcaaOpen
namespace Go.Proofs.Ytgkbpdcedighcaa
open Go.RowKit Go.Sort

theorem round_left (r n : Int) (hr : 0 ≤ r) (hn : 0 ≤ n) : eL 3072 n + eC r r 3072 n * 3072 = (r + 1) * 3072 - n % ((r + 1) * 3072) := by
  have t := total r r 3072 n hr hr (by decide) (by decide) hn
  have e : 3072 * (r + 1) = (r + 1) * 3072 := Int.mul_comm _ _
  rw [e] at t
  by_cases h : n < 3072 + 3072 * r
  · have := (t.1 h).2
    rw [Int.emod_eq_of_lt hn (by omega)]
    omega
  · have := (t.2 (by omega)).2
    rw [show n - (3072 + 3072 * r) = n - (r + 1) * 3072 by omega, Int.sub_emod_right] at this
    omega
theorem round_before (r c l : Int) (hr : 0 ≤ r) (hr' : r ≤ 127) (hc : 0 ≤ c) (hc' : c ≤ 127) (hl : 1 ≤ l) (hl' : l ≤ 3072) :
    eO r c l (l + c * 3072 - 1) = 0 ∧ eC r c l (l + c * 3072 - 1) = 0 ∧ eL l (l + c * 3072 - 1) = 1 := by
  have t := (total r c l (l + c * 3072 - 1) hr hc hl hl' (by omega)).1 (by omega)
  have b := e_bd r c l (l + c * 3072 - 1) hr hr' hc hc' hl hl'
  omega
theorem round_many (r c l k : Int) (hr : 0 ≤ r) (hc : 0 ≤ c) (hl : 1 ≤ l) (hl' : l ≤ 3072) (hP : 0 ≤ k * ((r + 1) * 3072)) :
    eO r c l (l + c * 3072 + k * ((r + 1) * 3072)) = k + 1 := by
  have t := (total r c l (l + c * 3072 + k * ((r + 1) * 3072)) hr hc hl hl' (by omega)).2 (by omega)
  rw [t.1, show l + c * 3072 + k * ((r + 1) * 3072) - (l + 3072 * c) = k * ((r + 1) * 3072) by omega, Int.mul_comm 3072 (r + 1), Int.mul_ediv_cancel _ (by omega)]

set_option maxHeartbeats 1000000 in
theorem TimerRounds_walk (w : World) (rel : Int) (wr : (Lit.int .u8 rel).wf = true) (far : Int) (wf : (Lit.int .u32 far).wf = true) (rounds : Int) (wn : (Lit.int .u16 rounds).wf = true) :
    Calls Try.prog 10 #[.int .u8 rel, .int .u32 far, .int .u16 rounds] w fun e w' => e = .returned (.bool true) ∧ Below w.heap.size w w' := by
  have hr := wf_bounds_u8 wr
  have hf := wf_bounds_u32 wf
  have hn := wf_bounds_u16 wn
  clear wr wf wn
  have m0 : 0 ≤ far % ((rel % 128 + 1) * 3072) := Int.emod_nonneg _ (by omega)
  have m1 : far % ((rel % 128 + 1) * 3072) < (rel % 128 + 1) * 3072 := Int.emod_lt_of_pos _ (by omega)
  have p0 : 0 ≤ rounds * ((rel % 128 + 1) * 3072) := Int.mul_nonneg hn.1 (by omega)
  have p1 : rounds * ((rel % 128 + 1) * 3072) ≤ 65535 * 393216 := Int.mul_le_mul hn.2 (by omega) (by omega) (by omega)
  have hl := round_left (rel % 128) far (by omega) hf.1
  have hbd := e_bd (rel % 128) (rel % 128) 3072 far (by omega) (by omega) (by omega) (by omega) (by decide) (by decide)
  have hb := round_before (rel % 128) (eC (rel % 128) (rel % 128) 3072 far) (eL 3072 far) (by omega) (by omega) hbd.1 hbd.2.1 hbd.2.2.1 hbd.2.2.2
  have hm := round_many (rel % 128) (eC (rel % 128) (rel % 128) 3072 far) (eL 3072 far) rounds (by omega) hbd.1 hbd.2.2.1 hbd.2.2.2 p0
  have ho : eO (rel % 128) 0 1 1 = 1 ∧ eC (rel % 128) 0 1 1 = rel % 128 ∧ eL 1 1 = 3072 := by
    obtain ⟨h1, h2, h3⟩ := one_tick (rel % 128) 0 1 (by decide) (by decide)
    exact ⟨h3, h2, h1⟩
  rw [hl] at hb hm
  have HL := Lib.hid hl
  have HB := Lib.hid hb
  have HM := Lib.hid hm
  have HO := Lib.hid ho
  clear hl hb hm ho
  go_enter Try.func10, Try.ntmps10
  go_wp2_with fail
  refine (live09_any _).mono ?_
  rintro e w0 ⟨rfl, hB0⟩
  go_wp2_with fail
  refine (New_any _).mono ?_
  rintro e w1 ⟨t, rfl, ht, hA1, hB1'⟩
  have hB1 := step_below hB0 hB1'
  have htw : w.heap.size ≤ t := Nat.le_trans hB0.size ht
  clear hB0 hB1' ht
  go_wp2_with fail
  refine (Write0_any t _ _ _ _ rel w1 hA1 (by decide) hr.1 hr.2).mono ?_
  rintro e w2 ⟨rfl, hA2, hU2⟩
  have hB2 := step_upd hB1 hU2 htw
  clear hA1 hB1 hU2
  go_wp2_with fail
  refine (Until_off t _ _ _ w2 hA2).mono ?_
  rintro e w' ⟨rfl, rfl⟩
  go_wp2_with fail
  refine (Write1_any t _ _ _ _ 1 w2 hA2 (by decide) (by decide) (by decide)).mono ?_
  rintro e w3 ⟨rfl, hA3', hU3⟩
  have hA3 : At w3 t 115 (tk (rel % 128) (rel % 128) true 3072) := hA3'
  have hB3 := step_upd hB2 hU3 htw
  clear hA2 hB2 hU3 hA3'
  go_wp2_with fail
  refine (Go_e t _ _ 3072 far w3 hA3 (by omega) (by omega) (by omega) (by omega) (by decide) (by decide) (by omega)).mono ?_
  rintro e w4 ⟨rfl, hA4, hU4⟩
  have hB4 := step_upd hB3 hU4 htw
  clear hA3 hB3 hU4
  go_wp2_with fail
  refine (Until_any t _ _ _ w4 hA4 hbd.1 (by omega) (by omega) hbd.2.2.2).mono ?_
  rw [HL.out]
  rintro e w5 ⟨rfl, q, rfl⟩
  have hA5 := hA4.drewN q
  have hB5 : Below w.heap.size w (w4.drewN q) := ⟨hB4.os, hB4.tape, hB4.output, hB4.size, hB4.block⟩
  clear hA4 hB4
  generalize w4.drewN q = w5 at *
  go_wp2_with fail
  refine (Clone_any t _ _ _ _ w5 hA5).mono ?_
  rintro e w6 ⟨u, rfl, hu, hD6, hB6'⟩
  have hA6 := hA5.below hB6' hA5.lt
  have htu : t ≠ u := by have := hA5.lt; omega
  have huw : w.heap.size ≤ u := Nat.le_trans hB5.size hu
  have hB6 := step_below hB5 hB6'
  clear hA5 hB5 hB6' hu
  go_wp2_with fail
  refine (Go_e u _ _ _ ((rel % 128 + 1) * 3072 - far % ((rel % 128 + 1) * 3072) - 1) w6 hD6 (by omega) (by omega) hbd.1 hbd.2.1 hbd.2.2.1 hbd.2.2.2 (by omega)).mono ?_
  rw [HB.out.1, HB.out.2.1, HB.out.2.2]
  rintro e w7 ⟨rfl, hD7, hU7⟩
  have hA7 := hA6.upd hU7 htu
  have hB7 := step_upd hB6 hU7 huw
  clear hA6 hD6 hB6 hU7
  go_wp2_with fail
  refine (Go_e u _ _ _ 1 w7 hD7 (by omega) (by omega) (by decide) (by decide) (by decide) (by decide) (by decide)).mono ?_
  rw [HO.out.1, HO.out.2.1, HO.out.2.2]
  rintro e w8 ⟨rfl, hD8', hU8⟩
  have hD8 : At w8 u 115 (tk (rel % 128) (rel % 128) true 3072) := hD8'
  have hA8 := hA7.upd hU8 htu
  have hB8 := step_upd hB7 hU8 huw
  clear hA7 hD7 hB7 hU8 hD8'
  go_wp2_with (first
    | (go_at_call 41; refine (Cnt_any _ _ _ _ _ _ hD8).mono ?_; rintro e w' ⟨rfl, rfl⟩)
    | (go_at_call 42; refine (Left_any _ _ _ _ _ _ hD8).mono ?_; rintro e w' ⟨rfl, rfl⟩))
  refine (Go_e t _ _ _ ((rel % 128 + 1) * 3072 - far % ((rel % 128 + 1) * 3072) + rounds * ((rel % 128 + 1) * 3072)) w8 hA8 (by omega) (by omega) hbd.1 hbd.2.1 hbd.2.2.1 hbd.2.2.2 (by omega)).mono ?_
  rw [HM.out]
  rintro e w9 ⟨rfl, hA9, hU9⟩
  have hB9 := step_upd hB8 hU9 htw
  clear hA8 hA9 hD8 hB8 hU9
  go_wp2
  go_ret
  exact ⟨rfl, hB9⟩
end Go.Proofs.Ytgkbpdcedighcaa
