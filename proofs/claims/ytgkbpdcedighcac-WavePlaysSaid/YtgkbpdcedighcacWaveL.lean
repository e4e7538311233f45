/-
  The walk of the law 14's live.
-/
import Derived.Test.YtgkbpdcedighcacWaveS
import Derived.Test.YtgkbpdcedighcacWaveE
import Derived.Test.YtgkbpdcedighcacWaveNil
namespace Go.Proofs.Ytgkbpdcedighcac
open Go.RowKit Go.Sort NoiseP

set_option maxRecDepth 100000 in
set_option maxHeartbeats 2000000 in
theorem Wave_nil (w : World) : Calls Try.prog 76 #[.pointer none] w fun e w' => e = .returned (.agg (wrow fun _ => 0).toArray) ∧ Below w.heap.size w w' := by
  go_enter Try.func76, Try.ntmps76
  go_wp2_with fail
  refine allocs1 (F := fun w => Calls _ _ _ w _) ?_
  intro w1 hA1 hB1 _
  replace hA1 : At w1 w.heap.size 66 (wrow fun _ => 0) := hA1
  refine (is_nil w1).mono ?_
  rintro e _ ⟨rfl, rfl⟩
  go_wp2_with (with_reducible refine wpList_store_row rfl 66 (.tmp 2) (.tmp 6) rfl rfl w.heap.size (by kernel_rfl) (wrow fun _ => 0) (by kernel_rfl) 66 (wrow fun _ => 0) hA1 (by kernel_rfl) (by kernel_rfl) (wrow_one _) ?_)
  intro w3 hA3 hU3
  have hB3 := step_upd hB1 hU3 (by omega)
  go_wp2
  (try simp only [Exit.inBlock, Exit.then])
  refine bodyPost_ret (results_cell_at rfl _ _ w.heap.size 66 _ hA3 _ (by kernel_rfl) Try.underlying66 rfl (by kernel_rfl)) rfl ?_
  exact ⟨rfl, hB3⟩

def waveK (l : Nat → Nat) (k i : Nat) : Nat := if i < k then l i % 32 else 0
theorem waveK_step (l : Nat → Nat) (k : Nat) : (fun i => if i = k then l k % 32 else waveK l k i) = waveK l (k + 1) := by
  funext i
  unfold waveK
  by_cases h : i = k
  · subst h; simp
  · by_cases h2 : i < k
    · simp [h, h2, Nat.lt_succ_of_lt h2]
    · simp [h, h2, show ¬ i < k + 1 by omega]
/-- A new channel into which k levels were written. -/
def CS.lay (l : Nat → Nat) (k : Nat) : CS := ⟨0, 0, 0, 0, 0, false, waveK l k, k % 32, 4096, 1, perI 0, 0⟩
theorem CS.lay_ok (l : Nat → Nat) (k : Nat) : (CS.lay l k).Ok := ⟨by show (0 : Nat) < 4096; decide, by show (-4096 : Int) ≤ 0 ∧ (0 : Int) ≤ 4096; decide, by show (0 : Nat) < 256; decide, by show (0 : Nat) < 256; decide, by show (0 : Nat) < 32; decide, Nat.mod_lt _ (by decide), by show (1 : Int) ≤ 4096 ∧ (4096 : Int) ≤ 4096; decide, fun i => by
  show waveK l k i < 32
  unfold waveK
  split
  · exact Nat.mod_lt _ (by decide)
  · decide, by show (1 : Nat) < 262144; decide, perI_pos 0, by show (0 : Int) ≤ 0 ∧ (0 : Int) ≤ 255; decide⟩
theorem CS.lay_zero (l : Nat → Nat) : CS.new = CS.lay l 0 := by
  unfold CS.new CS.lay
  congr 1
theorem CS.lay_step (l : Nat → Nat) {k : Nat} (hk : k < 32) : (CS.lay l k).wr 6 (l k) = CS.lay l (k + 1) := by
  have e : (CS.lay l k).wr 6 (l k) = ⟨0, 0, 0, 0, 0, false, fun i => if i = k % 32 then l k % 32 else waveK l k i, (k % 32 + 1) % 32, 4096, 1, perI 0, 0⟩   := by simp [CS.wr, CS.lay]; rfl
  rw [e, Nat.mod_eq_of_lt hk, waveK_step]
  rfl

theorem live_new : (CS.new.wr 4 64).wr 4 0 = CS.lay (fun i => i) 0 := by
  rw [CS.lay_zero (fun i => i)]
  simp [CS.wr, CS.lay]
theorem live_low : ((CS.lay (fun i => i) 32).wr 2 5).wr 4 159 = ⟨5, 0, 159, 0, 0, false, waveK (fun i => i) 32, 0, 4096, 1, perI 0, 0⟩ := by
  simp [CS.wr, CS.lay]
theorem live_go1 : (CS.mk 5 0 159 0 0 false (waveK (fun i => i) 32) 0 4096 1 (perI 0) 0).go 4096 = ⟨5, 0, 159, 0, 0, false, waveK (fun i => i) 32, 1, 5, 1, perI 0, 0⟩ := by
  unfold CS.go
  congr 1
theorem live_go2 : (CS.mk 5 0 159 0 0 false (waveK (fun i => i) 32) 1 5 1 (perI 0) 0).go 5 = ⟨5, 0, 159, 0, 0, false, waveK (fun i => i) 32, 2, 5, 1, perI 0, 0⟩ := by
  unfold CS.go
  congr 1
theorem live_lev (s : Nat) : lvW 159 0 false (waveK (fun i => i) 32) 2 s = 2 := rfl

set_option maxRecDepth 100000 in
set_option maxHeartbeats 8000000 in
theorem live14_any (w : World) : Calls Try.prog 32 #[] w fun e w' => e = .returned (.bool true) ∧ Below w.heap.size w w' := by
  go_enter Try.func32, Try.ntmps32
  go_wp2_with fail
  refine (WNew_any w).mono ?_
  rintro e w1 ⟨c, b, rfl, hb, hbc, hA1, hN1, hB1⟩
  have P1 : PC w1 c b CS.new := ⟨hA1, hN1⟩
  clear hA1 hN1
  go_wp2_with fail
  refine (Write_S c b _ 4 64 w1 P1 CS.new_ok (by omega)).mono ?_
  rintro e w2 ⟨rfl, P2, U2⟩
  have hB2 := step_updS hB1 U2 (by rintro k (rfl | rfl) <;> omega)
  go_wp2_with fail
  refine (Write_S c b _ 4 0 w2 P2 (CS.wr_ok CS.new_ok _ (by omega)) (by omega)).mono ?_
  rintro e w3 ⟨rfl, P3, U3⟩
  rw [live_new] at P3
  have HB3 := Lib.hid (step_updS hB2 U3 (by rintro k (rfl | rfl) <;> omega))
  have HP3 := Lib.hid P3
  clear P1 P2 P3 U2 U3 hB1 hB2
  go_wp2
  go_loopw [2] (fun i wr => ∃ k : Nat, k ≤ 32 ∧ i = .int .i64 k ∧ Hid (PC wr c b (CS.lay (fun i => i) k)) ∧ Hid (Below w.heap.size w wr)) (fun i _ => 32 - (intOf i).toNat)
  case atStart => exact ⟨0, by omega, rfl, HP3, HB3⟩
  case round =>
    clear HP3 HB3
    obtain ⟨k, hk, rfl, HP, HB⟩ := hrel
    by_cases hlt : k < 32
    · have hk2 : k < 256 := by omega
      go_wp2_with fail
      refine (Write_S c b _ 6 k wr HP.out (CS.lay_ok _ _) hk2).mono ?_
      rintro e w4 ⟨rfl, P4, U4⟩
      rw [CS.lay_step (fun i => i) hlt] at P4
      have HP4 := Lib.hid P4
      have HB4 := Lib.hid (step_updS HB.out U4 (by rintro k (rfl | rfl) <;> omega))
      clear P4 U4
      go_wp2
      go_round
      case rel => exact ⟨k + 1, by omega, by go_num, HP4, HB4⟩
      case measure => simp [intOf]; omega
    · obtain rfl : k = 32 := by omega
      go_wp2_with fail
      refine (Wave_w c b 0 0 0 0 0 false _ _ 4096 wr HP.out.c).mono ?_
      rintro e w4 ⟨rfl, hb4⟩
      have hP4 := HP.out.below hb4
      have hB4 := step_below HB.out hb4
      have hcl : w.heap.size ≤ w4.heap.size := hB4.size
      clear HP HB hb4
      have hnew : At (w4.alloc (.cells #[.int .u8 0, .int .u8 0, .int .u8 0, .int .u8 0, .int .u8 0, .int .u8 0, .int .u8 0, .int .u8 0, .int .u8 0, .int .u8 0, .int .u8 0, .int .u8 0, .int .u8 0, .int .u8 0, .int .u8 0, .int .u8 0, .int .u8 0, .int .u8 0, .int .u8 0, .int .u8 0, .int .u8 0, .int .u8 0, .int .u8 0, .int .u8 0, .int .u8 0, .int .u8 0, .int .u8 0, .int .u8 0, .int .u8 0, .int .u8 0, .int .u8 0, .int .u8 0] 66)) w4.heap.size 66 (wrow fun _ => 0) := At.new w4 _ _
      have hP5 := hP4.below ((Below.refl w4.heap.size w4).alloc (Nat.le_refl _) (.cells #[.int .u8 0, .int .u8 0, .int .u8 0, .int .u8 0, .int .u8 0, .int .u8 0, .int .u8 0, .int .u8 0, .int .u8 0, .int .u8 0, .int .u8 0, .int .u8 0, .int .u8 0, .int .u8 0, .int .u8 0, .int .u8 0, .int .u8 0, .int .u8 0, .int .u8 0, .int .u8 0, .int .u8 0, .int .u8 0, .int .u8 0, .int .u8 0, .int .u8 0, .int .u8 0, .int .u8 0, .int .u8 0, .int .u8 0, .int .u8 0, .int .u8 0, .int .u8 0] 66))
      have hB5 := hB4.alloc hB4.size (.cells #[.int .u8 0, .int .u8 0, .int .u8 0, .int .u8 0, .int .u8 0, .int .u8 0, .int .u8 0, .int .u8 0, .int .u8 0, .int .u8 0, .int .u8 0, .int .u8 0, .int .u8 0, .int .u8 0, .int .u8 0, .int .u8 0, .int .u8 0, .int .u8 0, .int .u8 0, .int .u8 0, .int .u8 0, .int .u8 0, .int .u8 0, .int .u8 0, .int .u8 0, .int .u8 0, .int .u8 0, .int .u8 0, .int .u8 0, .int .u8 0, .int .u8 0, .int .u8 0] 66)
      have hne : c < w4.heap.size ∧ b < w4.heap.size := ⟨hP4.c.lt, hP4.b.lt⟩
      go_wp2_with (with_reducible refine wpList_store_row rfl 66 (.tmp 3) (.tmp 24) rfl rfl w4.heap.size (by kernel_rfl) (wrow (waveK (fun i => i) 32)) (by kernel_rfl) 66 (wrow fun _ => 0) hnew (by kernel_rfl) (by kernel_rfl) (wrow_one _) ?_)
      intro w6 hA6 hU6
      have hP6 := hP5.upd hU6 (by omega) (by omega)
      have hB6 := step_upd hB5 hU6 hcl
      clear hnew hP5 hB5 hU6 hP4 hB4
      generalize w4.heap.size = L at *
      go_wp2_with fail
      refine (Write_S c b _ 2 5 w6 hP6 (CS.lay_ok _ _) (by omega)).mono ?_
      rintro e w7 ⟨rfl, hP7, hU7⟩
      have hA7 := hA6.upd hU7 (by rintro (h | h) <;> omega)
      have hB7 := step_updS hB6 hU7 (by rintro k (rfl | rfl) <;> omega)
      clear hU7 hP6 hA6 hB6
      go_wp2_with fail
      refine (Write_S c b _ 4 159 w7 hP7 (CS.wr_ok (CS.lay_ok _ _) _ (by omega)) (by omega)).mono ?_
      rintro e w8 ⟨rfl, hP8, hU8⟩
      have hok8 := CS.wr_ok (CS.wr_ok (CS.lay_ok (fun i => i) 32) 2 (v := 5) (by omega)) 4 (v := 159) (by omega)
      rw [live_low] at hP8 hok8
      have hA8 := hA7.upd hU8 (by rintro (h | h) <;> omega)
      have hB8 := step_updS hB7 hU8 (by rintro k (rfl | rfl) <;> omega)
      clear hU8 hP7 hA7 hB7
      go_wp2_with fail
      refine (Go_S c b _ 4096 w8 hP8 hok8 (by omega)).mono ?_
      rintro e w9 ⟨rfl, hP9, hU9⟩
      have hok9 := CS.go_ok hok8 (n := 4096) (by omega)
      rw [live_go1] at hP9 hok9
      have hA9 := hA8.upd hU9 (by rintro (h | h) <;> omega)
      have hB9 := step_updS hB8 hU9 (by rintro k (rfl | rfl) <;> omega)
      clear hU9 hP8 hA8 hB8 hok8
      go_wp2_with fail
      refine (Place_any c b 5 0 159 0 0 false _ 1 5 w9 hP9.c).mono ?_
      rintro e _ ⟨rfl, rfl⟩
      go_wp2_with fail
      refine (Go_S c b _ 5 w9 hP9 hok9 (by omega)).mono ?_
      rintro e w10 ⟨rfl, hP10, hU10⟩
      rw [live_go2] at hP10
      have hA10 := hA9.upd hU10 (by rintro (h | h) <;> omega)
      have hB10 := step_updS hB9 hU10 (by rintro k (rfl | rfl) <;> omega)
      clear hU10 hP9 hA9 hB9 hok9
      go_wp2_with fail
      refine (Write_nil 2 1 w10).mono ?_
      rintro e _ ⟨rfl, rfl⟩
      go_wp2_with fail
      refine (Go_nilW 1 w10).mono ?_
      rintro e _ ⟨rfl, rfl⟩
      go_wp2_with fail
      refine (Bend_nil 1 w10).mono ?_
      rintro e _ ⟨rfl, rfl⟩
      go_wp2_with fail
      refine (Balance_nil w10).mono ?_
      rintro e _ ⟨rfl, rfl⟩
      have q31 : w10.cell? ⟨L, 31, none⟩ = some (.int .u8 31) := hA10.cell 31 rfl
      have HP := Lib.hid hP10.c
      have HN := Lib.hid hP10.b
      have HB := Lib.hid hB10
      have hsz := hB10.size
      clear hA10 hP10 hB10
      have q0 : ∀ w, (binOp .eql 66 (.agg (wrow fun _ => 0).toArray) (.agg #[.int .u8 0, .int .u8 0, .int .u8 0, .int .u8 0, .int .u8 0, .int .u8 0, .int .u8 0, .int .u8 0, .int .u8 0, .int .u8 0, .int .u8 0, .int .u8 0, .int .u8 0, .int .u8 0, .int .u8 0, .int .u8 0, .int .u8 0, .int .u8 0, .int .u8 0, .int .u8 0, .int .u8 0, .int .u8 0, .int .u8 0, .int .u8 0, .int .u8 0, .int .u8 0, .int .u8 0, .int .u8 0, .int .u8 0, .int .u8 0, .int .u8 0, .int .u8 0])).run Try.prog w = .ok (.bool true) w := eql32_same fun _ => 0
      go_wp2_with fail
      refine (Place_any c b 5 0 159 0 0 false _ 2 5 w10 HP.out).mono ?_
      rintro e _ ⟨rfl, rfl⟩
      go_wp2_with fail
      refine (Level_w c b 5 0 159 0 0 false _ 2 5 w10 _ _ _ HP.out HN.out (by omega) (by show (1 : Nat) < _; omega) (by omega)).mono ?_
      rintro e _ ⟨rfl, m1, rfl⟩
      rw [live_lev]
      have HP1 := Lib.hid (HP.out.drewN m1)
      have HB1 : Hid (Below w.heap.size w (w10.drewN m1)) := Lib.hid ⟨HB.out.os, HB.out.tape, HB.out.output, HB.out.size, HB.out.block⟩
      generalize w10.drewN m1 = w11 at *
      clear HP HB HN
      go_wp2_with fail
      refine (Volume_any c b 5 0 159 0 0 false _ 2 5 w11 HP1.out (by omega)).mono ?_
      rintro e _ ⟨rfl, rfl⟩
      go_wp2_with fail
      refine (On_any c b 5 0 159 0 0 false _ 2 5 w11 HP1.out (by omega)).mono ?_
      rintro e _ ⟨rfl, rfl⟩
      go_wp2_with fail
      refine (Period_w c b 5 0 159 0 0 false _ 2 5 w11 HP1.out (by omega) (by omega)).mono ?_
      rintro e _ ⟨rfl, m2, rfl⟩
      rw [show perW 5 0 = 5 by decide]
      have HP2 := Lib.hid (HP1.out.drewN m2)
      have HB2 : Hid (Below w.heap.size w (w11.drewN m2)) := Lib.hid ⟨HB1.out.os, HB1.out.tape, HB1.out.output, HB1.out.size, HB1.out.block⟩
      generalize w11.drewN m2 = w12 at *
      clear HP1 HB1
      go_wp2_with fail
      refine (Until_any c b 5 0 159 0 0 false _ 2 5 w12 HP2.out).mono ?_
      rintro e _ ⟨rfl, rfl⟩
      go_wp2_with fail
      refine (Level_nilW w12).mono ?_
      rintro e _ ⟨rfl, rfl⟩
      go_wp2_with fail
      refine (Period_nil w12).mono ?_
      rintro e _ ⟨rfl, rfl⟩
      go_wp2_with fail
      refine (On_nil w12).mono ?_
      rintro e _ ⟨rfl, rfl⟩
      go_wp2_with fail
      refine (Clone_nilW w12).mono ?_
      rintro e _ ⟨rfl, rfl⟩
      go_wp2_with fail
      refine (Until_nil w12).mono ?_
      rintro e _ ⟨rfl, rfl⟩
      go_wp2_with fail
      refine (Place_nil w12).mono ?_
      rintro e _ ⟨rfl, rfl⟩
      go_wp2_with fail
      refine (Wave_nil w12).mono ?_
      rintro e w13 ⟨rfl, hb13⟩
      have HB3 := Lib.hid (step_below HB2.out hb13)
      clear hb13 HB2
      go_wp2_with fail
      refine (Volume_nil w13).mono ?_
      rintro e _ ⟨rfl, rfl⟩
      go_wp2
      go_ret
      exact ⟨rfl, HB3.out⟩
end Go.Proofs.Ytgkbpdcedighcac
