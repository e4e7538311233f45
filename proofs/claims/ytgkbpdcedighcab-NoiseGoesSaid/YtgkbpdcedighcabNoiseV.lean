/-
  live of layer 13.
-/
import Derived.Test.YtgkbpdcedighcabNoiseN
namespace Go.Proofs.Ytgkbpdcedighcab
open Go.RowKit Go.Sort NoiseP

set_option maxHeartbeats 2000000 in
theorem live13_any (w : World) :
    Calls Try.prog 31 #[] w fun e w' => e = .returned (.bool true) ∧ Below w.heap.size w w' := by
  go_enter Try.func31, Try.ntmps31
  go_wp2_with fail
  refine (New_any 31 w (by omega) (by omega)).mono ?_
  rintro e w1 ⟨b, rfl, hb, hA1, hB1⟩
  rw [show perI 31 = 32 from rfl] at hA1
  go_wp2_with fail
  refine (Go_any b 1 32 32 32 w1 hA1 (by omega) (by omega) (by omega) (by omega)).mono ?_
  rintro e w2 ⟨rfl, hA2, hU2⟩
  have hB2 : Below w.heap.size w w2 := step_upd hB1 hU2 hb
  rw [show goS 1 32 32 32 = 131072 by decide +kernel, show goL 32 32 32 = 32 by decide +kernel] at hA2
  clear hU2 hA1 hB1
  go_wp2_with fail
  refine (Go_nil 1 w2).mono ?_
  rintro e _ ⟨rfl, rfl⟩
  go_wp2_with fail
  refine (Set_nil 1 w2).mono ?_
  rintro e _ ⟨rfl, rfl⟩
  go_wp2_with fail
  refine (Next_any 1 w2 (by omega)).mono ?_
  rintro e _ ⟨rfl, rfl⟩
  rw [show nextN 1 = 131072 by decide +kernel]
  go_wp2_with fail
  refine (Jump_any 1 2 w2 (by omega) (by omega)).mono ?_
  rintro e w3 ⟨rfl, hb3⟩
  rw [show jumpN 1 2 = 196608 by decide +kernel]
  have hA3 := hA2.below hb3 hA2.lt
  have hB3 := step_below hB2 hb3
  clear hA2 hB2 hb3
  go_wp2_with fail
  refine (Back_any 131072 w3 (by omega)).mono ?_
  rintro e _ ⟨rfl, rfl⟩
  rw [show backN 131072 = 1 by decide +kernel]
  go_wp2_with fail
  refine (Period_any 31 w3 (by omega) (by omega)).mono ?_
  rintro e _ ⟨rfl, rfl⟩
  rw [show perI 31 = 32 by decide +kernel]
  go_wp2_with fail
  refine (Period_any 0 w3 (by omega) (by omega)).mono ?_
  rintro e _ ⟨rfl, rfl⟩
  rw [show perI 0 = 1984 by decide +kernel]
  go_wp2_with fail
  refine (State_any b _ _ _ w3 hA3).mono ?_
  rintro e _ ⟨rfl, rfl⟩
  go_wp2_with fail
  refine (Left_any b _ _ _ w3 hA3).mono ?_
  rintro e _ ⟨rfl, rfl⟩
  go_wp2_with fail
  refine (Level_any b _ _ _ w3 hA3 (by omega)).mono ?_
  rintro e _ ⟨rfl, rfl⟩
  rw [show levN 131072 = 0 by decide +kernel]
  go_wp2_with fail
  refine (State_nil w3).mono ?_
  rintro e _ ⟨rfl, rfl⟩
  go_wp2_with fail
  refine (Level_nil w3).mono ?_
  rintro e _ ⟨rfl, rfl⟩
  go_wp2_with fail
  refine (Left_nil w3).mono ?_
  rintro e _ ⟨rfl, rfl⟩
  go_wp2_with fail
  refine (Clone_nil w3).mono ?_
  rintro e _ ⟨rfl, rfl⟩
  go_wp2
  go_ret
  exact ⟨rfl, hB3⟩
end Go.Proofs.Ytgkbpdcedighcab
