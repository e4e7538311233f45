/-
  The walk of the timer's live.
-/
import Derived.Test.YtgkbpdcedighcaaTimerP
namespace Go.Proofs.Ytgkbpdcedighcaa
open Go.RowKit Go.Sort

theorem Cnt_nil (w : World) : Calls Try.prog 41 #[.pointer none] w fun e w' => e = .returned (.int .u8 0) ∧ w = w' := by
  go_enter Try.func41, Try.ntmps41
  go_wp2
  go_ret
  exact ⟨rfl, rfl⟩
theorem Rel_nil (w : World) : Calls Try.prog 67 #[.pointer none] w fun e w' => e = .returned (.int .u8 0) ∧ w = w' := by
  go_enter Try.func67, Try.ntmps67
  go_wp2
  go_ret
  exact ⟨rfl, rfl⟩
theorem On_nil (w : World) : Calls Try.prog 46 #[.pointer none] w fun e w' => e = .returned (.bool false) ∧ w = w' := by
  go_enter Try.func46, Try.ntmps46
  go_wp2
  go_ret
  exact ⟨rfl, rfl⟩
theorem Left_nil (w : World) : Calls Try.prog 42 #[.pointer none] w fun e w' => e = .returned (.int .i64 0) ∧ w = w' := by
  go_enter Try.func42, Try.ntmps42
  go_wp2
  go_ret
  exact ⟨rfl, rfl⟩
theorem Clone_nil (w : World) : Calls Try.prog 39 #[.pointer none] w fun e w' => e = .returned (.pointer none) ∧ w = w' := by
  go_enter Try.func39, Try.ntmps39
  go_wp2
  go_ret
  exact ⟨rfl, rfl⟩
theorem Until_nil (w : World) : Calls Try.prog 45 #[.pointer none] w fun e w' => e = .returned (.tuple #[.int .i64 0, .bool false]) ∧ w = w' := by
  go_enter Try.func45, Try.ntmps45
  go_wp2_with fail
  refine (On_nil _).mono ?_
  rintro e w' ⟨rfl, rfl⟩
  go_wp2
  go_ret2
  exact ⟨rfl, rfl⟩

theorem live09_a1 : gO 1 1 3072 6144 = 1 := by decide
theorem live09_a2 : gC 1 1 3072 6144 = 1 := by decide
theorem live09_a3 : gL 3072 6144 = 3072 := by decide
theorem live09_b1 : gO 1 1 3072 6143 = 0 := by decide
theorem live09_b2 : gC 1 1 3072 6143 = 0 := by decide
theorem live09_b3 : gL 3072 6143 = 1 := by decide

set_option maxHeartbeats 1000000 in
theorem live09_any (w : World) : Calls Try.prog 34 #[] w fun e w' => e = .returned (.bool true) ∧ Below w.heap.size w w' := by
  go_enter Try.func34, Try.ntmps34
  go_wp2_with fail
  refine (New_any _).mono ?_
  rintro e w1 ⟨b, rfl, hb, hA1, hB1⟩
  go_wp2_with fail
  refine (Write0_any b _ _ _ _ 1 w1 hA1 (by decide) (by decide) (by decide)).mono ?_
  rintro e w2 ⟨rfl, hA2', hU2⟩
  have hA2 : At w2 b 115 (tk 1 0 false 3072) := hA2'
  have hB2 := step_upd hB1 hU2 hb
  clear hA1 hB1 hU2 hA2'
  go_wp2_with fail
  refine (Write1_any b _ _ _ _ 1 w2 hA2 (by decide) (by decide) (by decide)).mono ?_
  rintro e w3 ⟨rfl, hA3', hU3⟩
  have hA3 : At w3 b 115 (tk 1 1 true 3072) := hA3'
  have hB3 := step_upd hB2 hU3 hb
  clear hA2 hB2 hU3 hA3'
  go_wp2_with fail
  refine (Clone_any b _ _ _ _ w3 hA3).mono ?_
  rintro e w4 ⟨d, rfl, hd, hD4, hB4'⟩
  have hA4 := hA3.below hB4' hA3.lt
  have hbd : b ≠ d := by have := hA3.lt; omega
  have hdw : w.heap.size ≤ d := Nat.le_trans hB3.size hd
  have hB4 := step_below hB3 hB4'
  clear hA3 hB3 hB4' hd
  go_wp2_with fail
  refine (Go_any b 1 1 3072 6144 w4 hA4 (by decide) (by decide) (by decide) (by decide) (by decide) (by decide) (by decide) (by decide)).mono ?_
  rw [live09_a1, live09_a2, live09_a3]
  rintro e w5 ⟨rfl, hA5, hU5⟩
  have hD5 := hD4.upd hU5 (fun h => hbd h.symm)
  have hB5 := step_upd hB4 hU5 hb
  clear hA4 hD4 hB4 hU5
  go_wp2_with fail
  refine (Go_any d 1 1 3072 6143 w5 hD5 (by decide) (by decide) (by decide) (by decide) (by decide) (by decide) (by decide) (by decide)).mono ?_
  rw [live09_b1, live09_b2, live09_b3]
  rintro e w6 ⟨rfl, hD6, hU6⟩
  have hA6 := hA5.upd hU6 hbd
  have hB6 := step_upd hB5 hU6 hdw
  clear hA5 hD5 hB5 hU6
  go_wp2_with fail
  refine (Write_nil _ _ _).mono ?_
  rintro e w' ⟨rfl, rfl⟩
  go_wp2_with fail
  refine (Until_nil _).mono ?_
  rintro e w' ⟨rfl, rfl⟩
  go_wp2_with (first
    | (go_at_call_of 41 (Value.pointer none); refine (Cnt_nil _).mono ?_; rintro e w' ⟨rfl, rfl⟩)
    | (go_at_call_of 41 (Value.pointer (some ⟨b, 0, none⟩)); refine (Cnt_any _ _ _ _ _ _ hA6).mono ?_; rintro e w' ⟨rfl, rfl⟩)
    | (go_at_call 41; refine (Cnt_any _ _ _ _ _ _ hD6).mono ?_; rintro e w' ⟨rfl, rfl⟩)
    | (go_at_call_of 42 (Value.pointer none); refine (Left_nil _).mono ?_; rintro e w' ⟨rfl, rfl⟩)
    | (go_at_call 42; refine (Left_any _ _ _ _ _ _ hD6).mono ?_; rintro e w' ⟨rfl, rfl⟩)
    | (go_at_call 44; refine (Go_nil _ _).mono ?_; rintro e w' ⟨rfl, rfl⟩)
    | (go_at_call 39; refine (Clone_nil _).mono ?_; rintro e w' ⟨rfl, rfl⟩)
    | (go_at_call 46; refine (On_nil _).mono ?_; rintro e w' ⟨rfl, rfl⟩)
    | (go_at_call 67; refine (Rel_nil _).mono ?_; rintro e w' ⟨rfl, rfl⟩))
  go_ret
  exact ⟨rfl, hB6⟩
end Go.Proofs.Ytgkbpdcedighcaa
