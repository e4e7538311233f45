/-
  What must be whatever is asked: the law's live.
-/
import Derived.Test.YtgkbpdcedighcaaRamF
import Derived.Test.YtgkbpdcedighcaaPcs
import Derived.Test.YtgkbpdcedighcaaRamC
namespace Go.Proofs.Ytgkbpdcedighcaa
open Go.RowKit Go.Sort

theorem PcsAt.one {PT U8 : TypeId} {w : World} {base : Nat} {v : Value} {p : PL} {sl : Nat → Value} {f : Nat → Nat} (h : PcsAt PT U8 w base v p sl f) {s : Nat} (he : p = ⟨0 + 1, fun i => if i = 0 then s else 0, fun i => if i = 0 then 1 else 0⟩) :
    ∃ g cap A cap', v = .slice (some ⟨g, 0, none⟩) 1 cap ∧ w.cell? ⟨g, 0, none⟩ = some (.int .i64 (s : Int)) ∧ w.cell? ⟨g, 1, none⟩ = some (.slice A 1 cap') := by
  subst he
  obtain ⟨g, cap, hv, _, c0, c1⟩ := h.last
  obtain ⟨A, cap', hs, _⟩ := own_form (h.each 0 (by show 0 < 0 + 1; omega))
  rw [hs] at c1
  exact ⟨g, cap, A, cap', hv, c0, c1⟩

set_option maxRecDepth 100000 in
set_option maxHeartbeats 4000000 in
theorem live05_any (w : World) : Calls Try.prog 30 #[] w fun e w' => e = .returned (.bool true) ∧ Below w.heap.size w w' := by
  obtain ⟨N, hN⟩ : ∃ n : Nat, n = 8192 := ⟨_, rfl⟩
  go_enter Try.func30, Try.ntmps30
  go_wp2_with fail
  refine (New_ram w).mono ?_
  rintro e w1 ⟨m, B, rfl, hR1, hm1, hBm1, hB1⟩
  go_wp2_with fail
  refine (Write_any m B (fun _ => 0) 8193 7 w1 hR1).mono ?_
  rintro e w2 ⟨rfl, hR2, hU2⟩
  have HR2 : Hid (RamAt w2 m B f7) := Lib.hid (hR2.ext fun j _ => f7_put j)
  have HB2 := Lib.hid (hU2.to hB1 hB1.size (fun k hk => hk ▸ hBm1))
  clear hR1 hB1 hR2 hU2
  go_wp2_with fail
  refine (Pieces_z _ f7 N (Lib.hid hN) w2 HR2.out.rm).mono ?_
  rintro e w3 ⟨v, sl, rfl, hP3, hB3⟩
  obtain ⟨g, cap, A, cap', rfl, c0, c1⟩ := hP3.one (s := 1) (by rw [hN]; exact pcs_f7 8190)
  have HR3 := Lib.hid (HR2.out.below hB3)
  have HB3 := Lib.hid (step_below HB2.out hB3)
  clear hP3 hB3 HR2 HB2
  go_wp2_with fail
  refine (Write_nil 1 1 w3).mono ?_
  rintro e _ ⟨rfl, rfl⟩
  go_wp2_with fail
  refine (Read_any m B f7 1 w3 HR3.out).mono ?_
  rintro e _ ⟨he, rfl⟩
  obtain rfl : e = .returned (.int .u8 7) := by rw [he, show f7 (1 % 8192) = 7 from f7_at 1]; rfl
  clear he
  go_wp2_with fail
  refine (Blocks_any m B f7 w3 HR3.out).mono ?_
  rintro e _ ⟨he, rfl⟩
  obtain rfl : e = .returned (.int .i64 1) := by rw [he, cntb_f7 (by omega)]; rfl
  clear he
  go_wp2_with fail
  refine (Read_rm (.pointer none) (fun _ => 0) 1 w3 (rm_nil w3)).mono ?_
  rintro e _ ⟨rfl, rfl⟩
  go_wp2_with fail
  refine (Clone_nil w3).mono ?_
  rintro e _ ⟨rfl, rfl⟩
  go_wp2_with fail
  refine (Pieces_z (.pointer none) (fun _ => 0) N (Lib.hid hN) _ (rm_nil _)).mono ?_
  rintro e w4 ⟨v4, sl4, rfl, hP4, hB4⟩
  have hr4 := hP4.row
  rw [pcs_none N] at hr4
  obtain ⟨A4, cap4, rfl, _⟩ := own_form hr4
  have HR4 := Lib.hid (HR3.out.below hB4)
  have HB4 := Lib.hid (step_below HB3.out hB4)
  clear hP4 hB4 hr4 HR3 HB3 c0 c1
  go_wp2_with fail
  refine (Blocks_nil w4).mono ?_
  rintro e _ ⟨rfl, rfl⟩
  go_wp2_with fail
  refine (Other_any _ _ f7 (fun _ => 0) _ HR4.out.rm (rm_nil _)).mono ?_
  rintro e _ ⟨he, rfl⟩
  obtain rfl : e = .returned (.int .i64 1) := by rw [he, oth_f7]
  clear he
  go_wp2_with fail
  refine (New_ram _).mono ?_
  rintro e w5 ⟨m5, B5, rfl, hR5, -, -, hB5⟩
  have HB5 := Lib.hid (step_below HB4.out hB5)
  go_wp2_with fail
  refine (Same_any _ _ (fun _ => 0) (fun _ => 0) _ (rm_nil _) hR5.rm).mono ?_
  rintro e _ ⟨he, rfl⟩
  obtain rfl : e = .returned (.bool true) := by rw [he, same_self]
  clear he
  go_wp2
  go_ret
  exact ⟨rfl, HB5.out⟩
end Go.Proofs.Ytgkbpdcedighcaa
