/-
  The walk of the law MixMiddle.
-/
import Derived.Test.YtgkbpdcedighcacMixL
import Derived.Test.YtgkbpdcedighcacOpen
namespace Go.Proofs.Ytgkbpdcedighcac
open Go.RowKit Go.Sort

theorem tmod2 (n : Int) : n.tmod 2 = 0 ↔ n % 2 = 0 := by
  rw [← Int.dvd_iff_tmod_eq_zero, Int.dvd_iff_emod_eq_zero]

set_option maxRecDepth 100000 in
set_option maxHeartbeats 4000000 in
theorem MixMiddle_walk (w : World) (l : Int) (_ : (Lit.int .i64 l).wf = true) (r : Int) (_ : (Lit.int .i64 r).wf = true) :
    Calls Try.prog 6 #[.int .i64 l, .int .i64 r] w fun e w' => e = .returned (.bool true) ∧ Below w.heap.size w w' := by
  by_cases h1 : l < -1099511627776
  · have d1 : decide (l < -1099511627776) = true := decide_eq_true h1
    have HBAD0 : Hid (midBad l r) := Lib.hid (Or.inl h1)
    go_enter Try.func6, Try.ntmps6
    go_wp2_with fail
    refine (live16_any w).mono ?_
    rintro e w1 ⟨rfl, hB1⟩
    go_wp2_with fail
    refine (Middle_bad l r w1 HBAD0.out).mono ?_
    rintro e _ ⟨rfl, rfl⟩
    go_wp2
    go_ret
    exact ⟨rfl, hB1⟩
  · have d1 : decide (l < -1099511627776) = false := decide_eq_false h1
    by_cases h2 : 1099511627776 < l
    · have d2 : decide (1099511627776 < l) = true := decide_eq_true h2
      have HBAD0 : Hid (midBad l r) := Lib.hid (Or.inr (Or.inl h2))
      go_enter Try.func6, Try.ntmps6
      go_wp2_with fail
      refine (live16_any w).mono ?_
      rintro e w1 ⟨rfl, hB1⟩
      go_wp2_with fail
      refine (Middle_bad l r w1 HBAD0.out).mono ?_
      rintro e _ ⟨rfl, rfl⟩
      go_wp2
      go_ret
      exact ⟨rfl, hB1⟩
    · have d2 : decide (1099511627776 < l) = false := decide_eq_false h2
      by_cases h3 : r < -1099511627776
      · have d3 : decide (r < -1099511627776) = true := decide_eq_true h3
        have HBAD0 : Hid (midBad l r) := Lib.hid (Or.inr (Or.inr (Or.inl h3)))
        go_enter Try.func6, Try.ntmps6
        go_wp2_with fail
        refine (live16_any w).mono ?_
        rintro e w1 ⟨rfl, hB1⟩
        go_wp2_with fail
        refine (Middle_bad l r w1 HBAD0.out).mono ?_
        rintro e _ ⟨rfl, rfl⟩
        go_wp2
        go_ret
        exact ⟨rfl, hB1⟩
      · have d3 : decide (r < -1099511627776) = false := decide_eq_false h3
        by_cases h4 : 1099511627776 < r
        · have d4 : decide (1099511627776 < r) = true := decide_eq_true h4
          have HBAD0 : Hid (midBad l r) := Lib.hid (Or.inr (Or.inr (Or.inr (Or.inl h4))))
          go_enter Try.func6, Try.ntmps6
          go_wp2_with fail
          refine (live16_any w).mono ?_
          rintro e w1 ⟨rfl, hB1⟩
          go_wp2_with fail
          refine (Middle_bad l r w1 HBAD0.out).mono ?_
          rintro e _ ⟨rfl, rfl⟩
          go_wp2
          go_ret
          exact ⟨rfl, hB1⟩
        · have d4 : decide (1099511627776 < r) = false := decide_eq_false h4
          have hl : -1099511627776 ≤ l ∧ l ≤ 1099511627776 := by omega
          have hr : -1099511627776 ≤ r ∧ r ≤ 1099511627776 := by omega
          have e1 : (l.tmod 2 == 0) = (l % 2 == 0) := by rw [Bool.eq_iff_iff, beq_iff_eq, beq_iff_eq, tmod2]
          have e2 : (r.tmod 2 == 0) = (r % 2 == 0) := by rw [Bool.eq_iff_iff, beq_iff_eq, beq_iff_eq, tmod2]
          by_cases h5 : l % 2 = r % 2
          · have HG : Hid (¬ midBad l r) := Lib.hid (by unfold midBad; omega)
            rw [← h5] at e2
            have g1 : (l + r) / 2 + (l - (l + r) / 2) = l := by omega
            have g2 : (l + r) / 2 - (l - (l + r) / 2) = r := by omega
            have g3 : -1099511627776 ≤ (l + r) / 2 ∧ (l + r) / 2 ≤ 1099511627776 := by omega
            generalize (l % 2 == 0) = pb at *
            clear h5
            go_enter Try.func6, Try.ntmps6
            go_wp2_with fail
            refine (live16_any w).mono ?_
            rintro e w1 ⟨rfl, hB1⟩
            go_wp2_with fail
            refine (Middle_good l r w1 HG.out).mono ?_
            rintro e _ ⟨rfl, rfl⟩
            generalize (l + r) / 2 = md at *
            go_wp2
            go_ret
            exact ⟨rfl, hB1⟩
          · have HBAD0 : Hid (midBad l r) := Lib.hid (Or.inr (Or.inr (Or.inr (Or.inr h5))))
            have h6 : (r % 2 == 0) = !(l % 2 == 0) := by rw [Bool.eq_iff_iff]; simp only [beq_iff_eq, Bool.not_eq_true', beq_eq_false_iff_ne]; omega
            rw [h6] at e2
            clear h6 h5
            generalize (l % 2 == 0) = pb at *
            cases pb
            all_goals
              go_enter Try.func6, Try.ntmps6
              go_wp2_with fail
              refine (live16_any w).mono ?_
              rintro e w1 ⟨rfl, hB1⟩
              go_wp2_with fail
              refine (Middle_bad l r w1 HBAD0.out).mono ?_
              rintro e _ ⟨rfl, rfl⟩
              go_wp2
              go_ret
              exact ⟨rfl, hB1⟩
end Go.Proofs.Ytgkbpdcedighcac
