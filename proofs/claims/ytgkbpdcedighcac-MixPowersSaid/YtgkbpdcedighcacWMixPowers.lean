/-
  The walk of the law MixPowers.
-/
import Derived.Test.YtgkbpdcedighcacMixL
import Derived.Test.YtgkbpdcedighcacRMix
import Derived.Test.YtgkbpdcedighcacOpen
import Derived.Test.YtgkbpdcedighcacWaveE
namespace Go.Proofs.Ytgkbpdcedighcac
open Go.RowKit Go.Sort

theorem pow_four (l : Int) (h0 : 0 ≤ l) (h1 : l ≤ 43) : powZ (l + 4) = powZ l / 2 := by
  have : ∀ i : Fin 44, powZ ((i.val : Int) + 4) = powZ (i.val : Int) / 2 := by decide +kernel
  have h := this ⟨l.toNat, by omega⟩
  simp only [Int.toNat_of_nonneg h0] at h
  exact h
theorem pow_one (l : Int) (h0 : 0 ≤ l) (h1 : l ≤ 60) : powZ (l + 1) ≤ powZ l := by
  have : ∀ i : Fin 61, powZ ((i.val : Int) + 1) ≤ powZ (i.val : Int) := by decide +kernel
  have h := this ⟨l.toNat, by omega⟩
  simp only [Int.toNat_of_nonneg h0] at h
  exact h

set_option maxRecDepth 100000 in
set_option maxHeartbeats 4000000 in
theorem MixPowers_walk (w : World) (v0 : Int) (hv0 : (Lit.int .u8 v0).wf = true) (b0 : Int) (hb0 : (Lit.int .u8 b0).wf = true) (m0 : Int) (hm0 : (Lit.int .u8 m0).wf = true) (l : Int) (hl0 : (Lit.int .i64 l).wf = true) :
    Calls Try.prog 3 #[.int .u8 v0, .int .u8 b0, .int .u8 m0, .int .i64 l] w fun e w' => e = .returned (.bool true) ∧ Below w.heap.size w w' := by
  have hl := wf_bounds_i64 hl0
  obtain ⟨v, rfl⟩ : ∃ v : Nat, v0 = v := ⟨v0.toNat, by have := wf_bounds_u8 hv0; omega⟩
  obtain ⟨b, rfl⟩ : ∃ v : Nat, b0 = v := ⟨b0.toNat, by have := wf_bounds_u8 hb0; omega⟩
  obtain ⟨m, rfl⟩ : ∃ v : Nat, m0 = v := ⟨m0.toNat, by have := wf_bounds_u8 hm0; omega⟩
  have hv : v < 256 := by have := wf_bounds_u8 hv0; omega
  have hb : b < 256 := by have := wf_bounds_u8 hb0; omega
  have hm : m < 256 := by have := wf_bounds_u8 hm0; omega
  clear hv0 hb0 hm0 hl0
  have hp := powZ_bd l
  by_cases h0 : l < 0
  · have d0 : decide (l < 0) = true := decide_eq_true h0
    go_enter Try.func3, Try.ntmps3
    go_wp2_with fail
    refine (live16_any w).mono ?_
    rintro e w1 ⟨rfl, hB1⟩
    go_wp2_with fail
    refine (Power_any l w1).mono ?_
    rintro e w2 ⟨rfl, hb2⟩
    have hB2 := step_below hB1 hb2
    clear hB1 hb2
    go_wp2_with fail
    refine (Loss_any v b m w2 hv hb hm).mono ?_
    rintro e _ ⟨rfl, rfl⟩
    go_wp2_with fail
    refine (RLoss_any v b m w2 hv hb hm).mono ?_
    rintro e _ ⟨rfl, rfl⟩
    go_wp2_with fail
    refine (RPower_any l w2).mono ?_
    rintro e w3 ⟨rfl, hb3⟩
    have hB3 := step_below hB2 hb3
    clear hB2 hb3
    generalize lossZ v b m = lz at *
    go_wp2
    go_ret
    exact ⟨rfl, hB3⟩
  · have d0 : decide (l < 0) = false := decide_eq_false h0
    by_cases h60 : 60 < l
    · have d60 : decide (60 < l) = true := decide_eq_true h60
      have d43 : decide (43 < l) = true := by rw [decide_eq_true_eq]; omega
      go_enter Try.func3, Try.ntmps3
      go_wp2_with fail
      refine (live16_any w).mono ?_
      rintro e w1 ⟨rfl, hB1⟩
      go_wp2_with fail
      refine (Power_any l w1).mono ?_
      rintro e w2 ⟨rfl, hb2⟩
      have hB2 := step_below hB1 hb2
      clear hB1 hb2
      go_wp2_with fail
      refine (Loss_any v b m w2 hv hb hm).mono ?_
      rintro e _ ⟨rfl, rfl⟩
      go_wp2_with fail
      refine (RLoss_any v b m w2 hv hb hm).mono ?_
      rintro e _ ⟨rfl, rfl⟩
      go_wp2_with fail
      refine (RPower_any l w2).mono ?_
      rintro e w3 ⟨rfl, hb3⟩
      have hB3 := step_below hB2 hb3
      clear hB2 hb3
      generalize lossZ v b m = lz at *
      go_wp2
      go_ret
      exact ⟨rfl, hB3⟩
    · have d60 : decide (60 < l) = false := decide_eq_false h60
      have HLE : Hid (powZ (l + 1) ≤ powZ l) := Lib.hid (pow_one l (by omega) (by omega))
      by_cases h43 : 43 < l
      · have d43 : decide (43 < l) = true := decide_eq_true h43
        go_enter Try.func3, Try.ntmps3
        go_wp2_with fail
        refine (live16_any w).mono ?_
        rintro e w1 ⟨rfl, hB1⟩
        go_wp2_with fail
        refine (Power_any l w1).mono ?_
        rintro e w2 ⟨rfl, hb2⟩
        have hB2 := step_below hB1 hb2
        clear hB1 hb2
        go_wp2_with fail
        refine (Loss_any v b m w2 hv hb hm).mono ?_
        rintro e _ ⟨rfl, rfl⟩
        go_wp2_with fail
        refine (RLoss_any v b m w2 hv hb hm).mono ?_
        rintro e _ ⟨rfl, rfl⟩
        go_wp2_with fail
        refine (RPower_any l w2).mono ?_
        rintro e w3 ⟨rfl, hb3⟩
        have hB3 := step_below hB2 hb3
        clear hB2 hb3
        generalize lossZ v b m = lz at *
        go_wp2_with fail
        refine (Power_any (l + 1) w3).mono ?_
        rintro e w5 ⟨rfl, hb5⟩
        have hB5 := step_below hB3 hb5
        clear hB3 hb5
        have hle := HLE.out
        generalize powZ (l + 1) = q at *
        go_wp2
        go_ret
        exact ⟨rfl, hB5⟩
      · have d43 : decide (43 < l) = false := decide_eq_false h43
        have HP4 : Hid (powZ (l + 4) = powZ l / 2) := Lib.hid (pow_four l (by omega) (by omega))
        have ht : (powZ l).tdiv 2 = powZ l / 2 := Int.tdiv_eq_ediv_of_nonneg hp.1
        go_enter Try.func3, Try.ntmps3
        go_wp2_with fail
        refine (live16_any w).mono ?_
        rintro e w1 ⟨rfl, hB1⟩
        go_wp2_with fail
        refine (Power_any l w1).mono ?_
        rintro e w2 ⟨rfl, hb2⟩
        have hB2 := step_below hB1 hb2
        clear hB1 hb2
        go_wp2_with fail
        refine (Loss_any v b m w2 hv hb hm).mono ?_
        rintro e _ ⟨rfl, rfl⟩
        go_wp2_with fail
        refine (RLoss_any v b m w2 hv hb hm).mono ?_
        rintro e _ ⟨rfl, rfl⟩
        go_wp2_with fail
        refine (RPower_any l w2).mono ?_
        rintro e w3 ⟨rfl, hb3⟩
        have hB3 := step_below hB2 hb3
        clear hB2 hb3
        generalize lossZ v b m = lz at *
        go_wp2_with fail
        refine (Power_any (l + 4) w3).mono ?_
        rintro e w4 ⟨rfl, hb4⟩
        rw [HP4.out]
        have hB4 := step_below hB3 hb4
        clear hB3 hb4
        have hh : 0 ≤ powZ l / 2 ∧ powZ l / 2 ≤ 2048 := by omega
        generalize powZ l / 2 = hf at *
        go_wp2_with fail
        refine (Power_any (l + 1) w4).mono ?_
        rintro e w5 ⟨rfl, hb5⟩
        have hB5 := step_below hB4 hb5
        clear hB4 hb5
        have hle := HLE.out
        generalize powZ (l + 1) = q at *
        go_wp2
        go_ret
        exact ⟨rfl, hB5⟩
end Go.Proofs.Ytgkbpdcedighcac
