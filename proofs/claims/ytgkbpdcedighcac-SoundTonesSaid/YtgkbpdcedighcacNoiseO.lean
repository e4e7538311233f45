/-
  The walks of the package noise: one.
-/
import Derived.Test.YtgkbpdcedighcacNoiseK
namespace Go.Proofs.Ytgkbpdcedighcac
open Go.RowKit Go.Sort NoiseP

theorem shl_one (k : Nat) (h : k < 18) : (2 ^ k % 4294967296 : Int) = ((2 ^ k : Nat) : Int) := by
  have := two_pow_lt k h
  have e : (2 ^ k : Int) = ((2 ^ k : Nat) : Int) := by simp
  rw [e]
  generalize 2 ^ k = n at this
  omega

set_option maxHeartbeats 1000000 in
theorem one_Next (w : World) :
    Calls Try.prog 130 #[.func (.func 131) #[] #[]] w fun e w' => e = .returned (.agg (mA fun i => nextN (2 ^ i))) ∧ Below w.heap.size w w' := by
  obtain ⟨m2, hm2⟩ : ∃ m2 : Nat → Nat, m2 = fun i => nextN (2 ^ i) := ⟨_, rfl⟩
  rw [← hm2]
  have HM2 := Lib.hid hm2
  clear hm2
  go_enter Try.func130, Try.ntmps130
  go_wp2_with fail
  have hA1 : At (w.alloc (.cells #[.int .u32 0, .int .u32 0, .int .u32 0, .int .u32 0, .int .u32 0, .int .u32 0, .int .u32 0, .int .u32 0, .int .u32 0, .int .u32 0, .int .u32 0, .int .u32 0, .int .u32 0, .int .u32 0, .int .u32 0, .int .u32 0, .int .u32 0, .int .u32 0] 193)) w.heap.size 193 (mL (part m2 0)) := (At.new w #[.int .u32 0, .int .u32 0, .int .u32 0, .int .u32 0, .int .u32 0, .int .u32 0, .int .u32 0, .int .u32 0, .int .u32 0, .int .u32 0, .int .u32 0, .int .u32 0, .int .u32 0, .int .u32 0, .int .u32 0, .int .u32 0, .int .u32 0, .int .u32 0] 193).of_eq (mL_zero m2)
  have hz1 : (w.alloc (.cells #[.int .u32 0, .int .u32 0, .int .u32 0, .int .u32 0, .int .u32 0, .int .u32 0, .int .u32 0, .int .u32 0, .int .u32 0, .int .u32 0, .int .u32 0, .int .u32 0, .int .u32 0, .int .u32 0, .int .u32 0, .int .u32 0, .int .u32 0, .int .u32 0] 193)).heap.size = w.heap.size + 1 := by simp
  have hb1 : Below w.heap.size w (w.alloc (.cells #[.int .u32 0, .int .u32 0, .int .u32 0, .int .u32 0, .int .u32 0, .int .u32 0, .int .u32 0, .int .u32 0, .int .u32 0, .int .u32 0, .int .u32 0, .int .u32 0, .int .u32 0, .int .u32 0, .int .u32 0, .int .u32 0, .int .u32 0, .int .u32 0] 193)) := (Below.refl _ w).alloc (Nat.le_refl _) _
  generalize w.alloc (.cells #[.int .u32 0, .int .u32 0, .int .u32 0, .int .u32 0, .int .u32 0, .int .u32 0, .int .u32 0, .int .u32 0, .int .u32 0, .int .u32 0, .int .u32 0, .int .u32 0, .int .u32 0, .int .u32 0, .int .u32 0, .int .u32 0, .int .u32 0, .int .u32 0] 193) = w1 at *
  have hA2 : At (w1.alloc (.cells #[.int .u32 0, .int .u32 0, .int .u32 0, .int .u32 0, .int .u32 0, .int .u32 0, .int .u32 0, .int .u32 0, .int .u32 0, .int .u32 0, .int .u32 0, .int .u32 0, .int .u32 0, .int .u32 0, .int .u32 0, .int .u32 0, .int .u32 0, .int .u32 0] 193)) (w.heap.size + 1) 193 (mL (part m2 0)) := by
    have := At.new w1 #[.int .u32 0, .int .u32 0, .int .u32 0, .int .u32 0, .int .u32 0, .int .u32 0, .int .u32 0, .int .u32 0, .int .u32 0, .int .u32 0, .int .u32 0, .int .u32 0, .int .u32 0, .int .u32 0, .int .u32 0, .int .u32 0, .int .u32 0, .int .u32 0] 193
    rw [hz1] at this
    exact this.of_eq (mL_zero m2)
  have HA1 := Lib.hid (hA1.alloc (.cells #[.int .u32 0, .int .u32 0, .int .u32 0, .int .u32 0, .int .u32 0, .int .u32 0, .int .u32 0, .int .u32 0, .int .u32 0, .int .u32 0, .int .u32 0, .int .u32 0, .int .u32 0, .int .u32 0, .int .u32 0, .int .u32 0, .int .u32 0, .int .u32 0] 193))
  have HA2 := Lib.hid hA2
  have HB := Lib.hid (hb1.alloc (by omega) (.cells #[.int .u32 0, .int .u32 0, .int .u32 0, .int .u32 0, .int .u32 0, .int .u32 0, .int .u32 0, .int .u32 0, .int .u32 0, .int .u32 0, .int .u32 0, .int .u32 0, .int .u32 0, .int .u32 0, .int .u32 0, .int .u32 0, .int .u32 0, .int .u32 0] 193))
  clear hA1 hA2 hb1 hz1
  generalize w1.alloc (.cells #[.int .u32 0, .int .u32 0, .int .u32 0, .int .u32 0, .int .u32 0, .int .u32 0, .int .u32 0, .int .u32 0, .int .u32 0, .int .u32 0, .int .u32 0, .int .u32 0, .int .u32 0, .int .u32 0, .int .u32 0, .int .u32 0, .int .u32 0, .int .u32 0] 193) = w2 at *
  go_loopw [5] (fun i wr => ∃ k : Nat, k ≤ 18 ∧ i = .int .i64 k ∧ Hid (At wr w.heap.size 193 (mL (part m2 0))) ∧ Hid (At wr (w.heap.size + 1) 193 (mL (part m2 k))) ∧ Hid (Below w.heap.size w wr)) (fun i _ => 18 - (intOf i).toNat)
  case atStart => exact ⟨0, by omega, rfl, HA1, HA2, HB⟩
  case round =>
    obtain ⟨k, hk, rfl, H1, H2, HW⟩ := hrel
    by_cases hlt : k < 18
    · have hs := shl_one k hlt
      have hp := two_pow_lt k hlt
      have hc := H2.out.cell k (mL_get (part m2 k) k hlt)
      have hf := H2.out.frozen k
      go_wp2_with fail
      simp only [hs]
      refine (Next_any (2 ^ k) _ (by omega)).mono ?_
      rintro e w4 ⟨rfl, rfl⟩
      go_wp2_with fail
      go_round
      case rel =>
        refine ⟨k + 1, by omega, by go_num, ?h1, ?h2, ?h4⟩
        case h1 => exact Lib.hid (H1.out.far (by simp) _)
        case h2 => exact Lib.hid ((H2.out.set k _).of_eq (by rw [show nextN (2 ^ k) = m2 k by rw [HM2.out]]; exact mL_part_set m2 k hlt))
        case h4 => exact Lib.hid (step_upd HW.out ((Upd.refl _ _).here _) (by omega))
      case measure => simp [intOf]; omega
    · obtain rfl : k = 18 := by omega
      go_wp2_with (first
        | (with_reducible refine wpList_load_at rfl 193 (.tmp 3) rfl (w.heap.size + 1) (by kernel_rfl) 193 (mL (part m2 18)) H2.out _ Try.underlying193 rfl (by rw [mL_len]; kernel_rfl) ?_)
        | (with_reducible refine wpList_store_row rfl 193 (.tmp 2) (.tmp 15) rfl rfl w.heap.size (by kernel_rfl) (mL (part m2 18)) (by kernel_rfl) 193 (mL (part m2 0)) H1.out (by rw [mL_len, mL_len]) (by rw [mL_len]; kernel_rfl) (mL_cells _) ?_))
      intro w5 hA5 hU5
      have h5 : Below w.heap.size w w5 := step_upd HW.out hU5 (by omega)
      clear hU5
      go_wp2
      (try simp only [Exit.inBlock, Exit.then])
      refine bodyPost_ret (results_cell_at rfl _ _ w.heap.size 193 _ hA5 _ (by kernel_rfl) Try.underlying193 rfl (by rw [mL_len]; kernel_rfl)) rfl ?_
      exact ⟨by rw [mL_part_full]; rfl, h5⟩

set_option maxHeartbeats 1000000 in
theorem one_Back (w : World) :
    Calls Try.prog 130 #[.func (.func 132) #[] #[]] w fun e w' => e = .returned (.agg (mA fun i => backN (2 ^ i))) ∧ Below w.heap.size w w' := by
  obtain ⟨m2, hm2⟩ : ∃ m2 : Nat → Nat, m2 = fun i => backN (2 ^ i) := ⟨_, rfl⟩
  rw [← hm2]
  have HM2 := Lib.hid hm2
  clear hm2
  go_enter Try.func130, Try.ntmps130
  go_wp2_with fail
  have hA1 : At (w.alloc (.cells #[.int .u32 0, .int .u32 0, .int .u32 0, .int .u32 0, .int .u32 0, .int .u32 0, .int .u32 0, .int .u32 0, .int .u32 0, .int .u32 0, .int .u32 0, .int .u32 0, .int .u32 0, .int .u32 0, .int .u32 0, .int .u32 0, .int .u32 0, .int .u32 0] 193)) w.heap.size 193 (mL (part m2 0)) := (At.new w #[.int .u32 0, .int .u32 0, .int .u32 0, .int .u32 0, .int .u32 0, .int .u32 0, .int .u32 0, .int .u32 0, .int .u32 0, .int .u32 0, .int .u32 0, .int .u32 0, .int .u32 0, .int .u32 0, .int .u32 0, .int .u32 0, .int .u32 0, .int .u32 0] 193).of_eq (mL_zero m2)
  have hz1 : (w.alloc (.cells #[.int .u32 0, .int .u32 0, .int .u32 0, .int .u32 0, .int .u32 0, .int .u32 0, .int .u32 0, .int .u32 0, .int .u32 0, .int .u32 0, .int .u32 0, .int .u32 0, .int .u32 0, .int .u32 0, .int .u32 0, .int .u32 0, .int .u32 0, .int .u32 0] 193)).heap.size = w.heap.size + 1 := by simp
  have hb1 : Below w.heap.size w (w.alloc (.cells #[.int .u32 0, .int .u32 0, .int .u32 0, .int .u32 0, .int .u32 0, .int .u32 0, .int .u32 0, .int .u32 0, .int .u32 0, .int .u32 0, .int .u32 0, .int .u32 0, .int .u32 0, .int .u32 0, .int .u32 0, .int .u32 0, .int .u32 0, .int .u32 0] 193)) := (Below.refl _ w).alloc (Nat.le_refl _) _
  generalize w.alloc (.cells #[.int .u32 0, .int .u32 0, .int .u32 0, .int .u32 0, .int .u32 0, .int .u32 0, .int .u32 0, .int .u32 0, .int .u32 0, .int .u32 0, .int .u32 0, .int .u32 0, .int .u32 0, .int .u32 0, .int .u32 0, .int .u32 0, .int .u32 0, .int .u32 0] 193) = w1 at *
  have hA2 : At (w1.alloc (.cells #[.int .u32 0, .int .u32 0, .int .u32 0, .int .u32 0, .int .u32 0, .int .u32 0, .int .u32 0, .int .u32 0, .int .u32 0, .int .u32 0, .int .u32 0, .int .u32 0, .int .u32 0, .int .u32 0, .int .u32 0, .int .u32 0, .int .u32 0, .int .u32 0] 193)) (w.heap.size + 1) 193 (mL (part m2 0)) := by
    have := At.new w1 #[.int .u32 0, .int .u32 0, .int .u32 0, .int .u32 0, .int .u32 0, .int .u32 0, .int .u32 0, .int .u32 0, .int .u32 0, .int .u32 0, .int .u32 0, .int .u32 0, .int .u32 0, .int .u32 0, .int .u32 0, .int .u32 0, .int .u32 0, .int .u32 0] 193
    rw [hz1] at this
    exact this.of_eq (mL_zero m2)
  have HA1 := Lib.hid (hA1.alloc (.cells #[.int .u32 0, .int .u32 0, .int .u32 0, .int .u32 0, .int .u32 0, .int .u32 0, .int .u32 0, .int .u32 0, .int .u32 0, .int .u32 0, .int .u32 0, .int .u32 0, .int .u32 0, .int .u32 0, .int .u32 0, .int .u32 0, .int .u32 0, .int .u32 0] 193))
  have HA2 := Lib.hid hA2
  have HB := Lib.hid (hb1.alloc (by omega) (.cells #[.int .u32 0, .int .u32 0, .int .u32 0, .int .u32 0, .int .u32 0, .int .u32 0, .int .u32 0, .int .u32 0, .int .u32 0, .int .u32 0, .int .u32 0, .int .u32 0, .int .u32 0, .int .u32 0, .int .u32 0, .int .u32 0, .int .u32 0, .int .u32 0] 193))
  clear hA1 hA2 hb1 hz1
  generalize w1.alloc (.cells #[.int .u32 0, .int .u32 0, .int .u32 0, .int .u32 0, .int .u32 0, .int .u32 0, .int .u32 0, .int .u32 0, .int .u32 0, .int .u32 0, .int .u32 0, .int .u32 0, .int .u32 0, .int .u32 0, .int .u32 0, .int .u32 0, .int .u32 0, .int .u32 0] 193) = w2 at *
  go_loopw [5] (fun i wr => ∃ k : Nat, k ≤ 18 ∧ i = .int .i64 k ∧ Hid (At wr w.heap.size 193 (mL (part m2 0))) ∧ Hid (At wr (w.heap.size + 1) 193 (mL (part m2 k))) ∧ Hid (Below w.heap.size w wr)) (fun i _ => 18 - (intOf i).toNat)
  case atStart => exact ⟨0, by omega, rfl, HA1, HA2, HB⟩
  case round =>
    obtain ⟨k, hk, rfl, H1, H2, HW⟩ := hrel
    by_cases hlt : k < 18
    · have hs := shl_one k hlt
      have hp := two_pow_lt k hlt
      have hc := H2.out.cell k (mL_get (part m2 k) k hlt)
      have hf := H2.out.frozen k
      go_wp2_with fail
      simp only [hs]
      refine (Back_any (2 ^ k) _ (by omega)).mono ?_
      rintro e w4 ⟨rfl, rfl⟩
      go_wp2_with fail
      go_round
      case rel =>
        refine ⟨k + 1, by omega, by go_num, ?h1, ?h2, ?h4⟩
        case h1 => exact Lib.hid (H1.out.far (by simp) _)
        case h2 => exact Lib.hid ((H2.out.set k _).of_eq (by rw [show backN (2 ^ k) = m2 k by rw [HM2.out]]; exact mL_part_set m2 k hlt))
        case h4 => exact Lib.hid (step_upd HW.out ((Upd.refl _ _).here _) (by omega))
      case measure => simp [intOf]; omega
    · obtain rfl : k = 18 := by omega
      go_wp2_with (first
        | (with_reducible refine wpList_load_at rfl 193 (.tmp 3) rfl (w.heap.size + 1) (by kernel_rfl) 193 (mL (part m2 18)) H2.out _ Try.underlying193 rfl (by rw [mL_len]; kernel_rfl) ?_)
        | (with_reducible refine wpList_store_row rfl 193 (.tmp 2) (.tmp 15) rfl rfl w.heap.size (by kernel_rfl) (mL (part m2 18)) (by kernel_rfl) 193 (mL (part m2 0)) H1.out (by rw [mL_len, mL_len]) (by rw [mL_len]; kernel_rfl) (mL_cells _) ?_))
      intro w5 hA5 hU5
      have h5 : Below w.heap.size w w5 := step_upd HW.out hU5 (by omega)
      clear hU5
      go_wp2
      (try simp only [Exit.inBlock, Exit.then])
      refine bodyPost_ret (results_cell_at rfl _ _ w.heap.size 193 _ hA5 _ (by kernel_rfl) Try.underlying193 rfl (by rw [mL_len]; kernel_rfl)) rfl ?_
      exact ⟨by rw [mL_part_full]; rfl, h5⟩
end Go.Proofs.Ytgkbpdcedighcac
