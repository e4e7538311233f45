/-
  The walk of turns.turn.
-/
import Derived.Test.YtgkbpdcedighcacCplx
import Derived.Test.YtgkbpdcedighcacRow
import Derived.Test.YtgkbpdcedighcacRows
import Derived.LoopTactic
namespace Go.Proofs.Ytgkbpdcedighcac
open Go.RowKit Go.Sort

set_option maxRecDepth 100000 in
set_option maxHeartbeats 1000000 in
theorem turn_is (k : Nat) (w : World) (hk : k ≤ 16) : Calls Try.prog 142 #[.int .i64 (k : Int)] w fun e w' => e = .returned (tV k) ∧ w = w' := by
  obtain ⟨r, hr⟩ : ∃ r, r = k % 4 := ⟨_, rfl⟩
  have e1 : (k : Int).tmod 4 = (r : Int) := by rw [Int.tmod_eq_emod_of_nonneg (by omega)]; omega
  have hr4 : r < 4 := by omega
  have HR := Lib.hid hr
  clear hr
  go_enter Try.func142, Try.ntmps142
  go_wp2_with fail
  go_loopw [3, 6] (fun v i wr => ∃ (j : Nat), j ≤ r ∧ i = .int .i64 j ∧ v = .complex .f64 (tB j).1 (tB j).2 ∧ wr = w) (fun _ i _ => r - (intOf i).toNat)
  case atStart => exact ⟨0, by omega, rfl, rfl, rfl⟩
  case round =>
    obtain ⟨j, hj, rfl, rfl, rfl⟩ := hrel
    by_cases hlt : j < r
    · have hrun := fun w => tB_run (P := Try.prog) j 118 w
      generalize tB j = x at *
      have HE : Hid (tB (j + 1) = tB (j + 1)) := Lib.hid rfl
      generalize hy : tB (j + 1) = y at *
      have HY := Lib.hid hy
      clear hy HE
      go_wp2
      go_round
      case rel => exact ⟨j + 1, by omega, by go_num, by rw [HY.out], by first | rfl | trivial⟩
      case measure => simp [intOf]; omega
    · obtain rfl : j = r := by omega
      have HE : Hid (tV k = .complex .f64 (tB j).1 (tB j).2) := Lib.hid (by rw [tV, HR.out])
      generalize tB j = x at *
      go_wp2
      go_ret
      exact ⟨by rw [HE.out]; rfl, rfl⟩

theorem turn_any (k : Nat) (w : World) (hk : k ≤ 16) : Calls Try.prog 142 #[.int .i64 (k : Int)] w fun e w' => (∃ v, e = .returned v ∧ CZ v (tI k).1 (tI k).2) ∧ w = w' :=
  (turn_is k w hk).mono fun _ _ h => ⟨⟨_, h.1, tV_cz k⟩, h.2⟩
end Go.Proofs.Ytgkbpdcedighcac
