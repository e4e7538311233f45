/-
  The walks of the package noise: twice, one, Jump.
-/
import Derived.Test.YtgkbpdcedighcacNoiseJ
import Derived.Test.YtgkbpdcedighcacRow
namespace Go.Proofs.Ytgkbpdcedighcac
open Go.RowKit Go.Sort NoiseP

/-- The first k of m', the rest 0. -/
def part (m : Nat → Nat) (k i : Nat) : Nat := if i < k then m i else 0
theorem mL_len (m : Nat → Nat) : (mL m).length = 18 := by simp [mL]
theorem mL_out (m : Nat → Nat) (i : Nat) (h : ¬ i < 18) : (mL m)[i]? = none := List.getElem?_eq_none (by rw [mL_len]; omega)
theorem mL_part_set (m : Nat → Nat) (k : Nat) (hk : k < 18) : (mL (part m k)).set k (.int .u32 (m k : Nat)) = mL (part m (k + 1)) := by
  apply List.ext_getElem?
  intro i
  rw [List.getElem?_set, mL_len]
  by_cases h : k = i
  · subst h
    rw [if_pos rfl, if_pos hk, mL_get _ _ hk]
    simp [part]
  · rw [if_neg h]
    by_cases hi : i < 18
    · rw [mL_get _ _ hi, mL_get _ _ hi]
      simp only [part]
      by_cases h2 : i < k
      · rw [if_pos h2, if_pos (by omega)]
      · rw [if_neg h2, if_neg (by omega)]
    · rw [mL_out _ _ hi, mL_out _ _ hi]
theorem mL_part_full (m : Nat → Nat) : mL (part m 18) = mL m := by
  apply List.ext_getElem?
  intro i
  by_cases hi : i < 18
  · rw [mL_get _ _ hi, mL_get _ _ hi]; simp [part, hi]
  · rw [mL_out _ _ hi, mL_out _ _ hi]
theorem mL_zero (m : Nat → Nat) : [.int .u32 0, .int .u32 0, .int .u32 0, .int .u32 0, .int .u32 0, .int .u32 0, .int .u32 0, .int .u32 0, .int .u32 0, .int .u32 0, .int .u32 0, .int .u32 0, .int .u32 0, .int .u32 0, .int .u32 0, .int .u32 0, .int .u32 0, .int .u32 0] = mL (part m 0) := rfl
theorem mL_cells (m : Nat → Nat) : ∀ v ∈ mL m, v.oneCell' = true := by
  intro v hv
  obtain ⟨i, _, rfl⟩ := List.mem_map.1 hv
  rfl

set_option maxHeartbeats 1000000 in
theorem twice_any (m : Nat → Nat) (w : World) (hm : ∀ i, i < 18 → m i < 262144) :
    Calls Try.prog 134 #[.agg (mA m)] w fun e w' => e = .returned (.agg (mA fun i => ofK m (m i) 18)) ∧ Below w.heap.size w w' := by
  have HM := Lib.hid hm
  clear hm
  obtain ⟨m2, hm2⟩ : ∃ m2 : Nat → Nat, m2 = fun i => ofK m (m i) 18 := ⟨_, rfl⟩
  rw [← hm2]
  have HM2 := Lib.hid hm2
  clear hm2
  go_enter Try.func134, Try.ntmps134
  go_wp2_with fail
  have hA1 : At ((w.alloc (.cells (mA m) 193)).alloc (.cells #[.int .u32 0, .int .u32 0, .int .u32 0, .int .u32 0, .int .u32 0, .int .u32 0, .int .u32 0, .int .u32 0, .int .u32 0, .int .u32 0, .int .u32 0, .int .u32 0, .int .u32 0, .int .u32 0, .int .u32 0, .int .u32 0, .int .u32 0, .int .u32 0] 193)) w.heap.size 193 (mL m) := (At.newA w m _).alloc _
  have hA2 : At ((w.alloc (.cells (mA m) 193)).alloc (.cells #[.int .u32 0, .int .u32 0, .int .u32 0, .int .u32 0, .int .u32 0, .int .u32 0, .int .u32 0, .int .u32 0, .int .u32 0, .int .u32 0, .int .u32 0, .int .u32 0, .int .u32 0, .int .u32 0, .int .u32 0, .int .u32 0, .int .u32 0, .int .u32 0] 193)) (w.heap.size + 1) 193 (mL (part m 0)) := by
    have := At.new (w.alloc (.cells (mA m) 193)) #[.int .u32 0, .int .u32 0, .int .u32 0, .int .u32 0, .int .u32 0, .int .u32 0, .int .u32 0, .int .u32 0, .int .u32 0, .int .u32 0, .int .u32 0, .int .u32 0, .int .u32 0, .int .u32 0, .int .u32 0, .int .u32 0, .int .u32 0, .int .u32 0] 193
    rw [show (w.alloc (.cells (mA m) 193)).heap.size = w.heap.size + 1 by simp] at this
    exact this.of_eq (mL_zero m)
  have hb2 : Below w.heap.size w ((w.alloc (.cells (mA m) 193)).alloc (.cells #[.int .u32 0, .int .u32 0, .int .u32 0, .int .u32 0, .int .u32 0, .int .u32 0, .int .u32 0, .int .u32 0, .int .u32 0, .int .u32 0, .int .u32 0, .int .u32 0, .int .u32 0, .int .u32 0, .int .u32 0, .int .u32 0, .int .u32 0, .int .u32 0] 193)) := ((Below.refl _ w).alloc (Nat.le_refl _) _).alloc (by simp) _
  have hz2 : ((w.alloc (.cells (mA m) 193)).alloc (.cells #[.int .u32 0, .int .u32 0, .int .u32 0, .int .u32 0, .int .u32 0, .int .u32 0, .int .u32 0, .int .u32 0, .int .u32 0, .int .u32 0, .int .u32 0, .int .u32 0, .int .u32 0, .int .u32 0, .int .u32 0, .int .u32 0, .int .u32 0, .int .u32 0] 193)).heap.size = w.heap.size + 1 + 1 := by simp
  generalize ((w.alloc (.cells (mA m) 193)).alloc (.cells #[.int .u32 0, .int .u32 0, .int .u32 0, .int .u32 0, .int .u32 0, .int .u32 0, .int .u32 0, .int .u32 0, .int .u32 0, .int .u32 0, .int .u32 0, .int .u32 0, .int .u32 0, .int .u32 0, .int .u32 0, .int .u32 0, .int .u32 0, .int .u32 0] 193)) = w2 at *
  have hA3 : At (w2.alloc (.cells #[.int .u32 0, .int .u32 0, .int .u32 0, .int .u32 0, .int .u32 0, .int .u32 0, .int .u32 0, .int .u32 0, .int .u32 0, .int .u32 0, .int .u32 0, .int .u32 0, .int .u32 0, .int .u32 0, .int .u32 0, .int .u32 0, .int .u32 0, .int .u32 0] 193)) (w.heap.size + 1 + 1) 193 (mL (part m2 0)) := by
    have := At.new w2 #[.int .u32 0, .int .u32 0, .int .u32 0, .int .u32 0, .int .u32 0, .int .u32 0, .int .u32 0, .int .u32 0, .int .u32 0, .int .u32 0, .int .u32 0, .int .u32 0, .int .u32 0, .int .u32 0, .int .u32 0, .int .u32 0, .int .u32 0, .int .u32 0] 193
    rw [hz2] at this
    exact this.of_eq (mL_zero m2)
  have HA1 := Lib.hid (hA1.alloc (.cells #[.int .u32 0, .int .u32 0, .int .u32 0, .int .u32 0, .int .u32 0, .int .u32 0, .int .u32 0, .int .u32 0, .int .u32 0, .int .u32 0, .int .u32 0, .int .u32 0, .int .u32 0, .int .u32 0, .int .u32 0, .int .u32 0, .int .u32 0, .int .u32 0] 193))
  have HA2 := Lib.hid (hA2.alloc (.cells #[.int .u32 0, .int .u32 0, .int .u32 0, .int .u32 0, .int .u32 0, .int .u32 0, .int .u32 0, .int .u32 0, .int .u32 0, .int .u32 0, .int .u32 0, .int .u32 0, .int .u32 0, .int .u32 0, .int .u32 0, .int .u32 0, .int .u32 0, .int .u32 0] 193))
  have HA3 := Lib.hid hA3
  have HB := Lib.hid (hb2.alloc (by omega) (.cells #[.int .u32 0, .int .u32 0, .int .u32 0, .int .u32 0, .int .u32 0, .int .u32 0, .int .u32 0, .int .u32 0, .int .u32 0, .int .u32 0, .int .u32 0, .int .u32 0, .int .u32 0, .int .u32 0, .int .u32 0, .int .u32 0, .int .u32 0, .int .u32 0] 193))
  clear hA1 hA2 hA3 hb2 hz2
  generalize (w2.alloc (.cells #[.int .u32 0, .int .u32 0, .int .u32 0, .int .u32 0, .int .u32 0, .int .u32 0, .int .u32 0, .int .u32 0, .int .u32 0, .int .u32 0, .int .u32 0, .int .u32 0, .int .u32 0, .int .u32 0, .int .u32 0, .int .u32 0, .int .u32 0, .int .u32 0] 193)) = w3 at *
  go_loopw [5] (fun i wr => ∃ k : Nat, k ≤ 18 ∧ i = .int .i64 k ∧ Hid (At wr w.heap.size 193 (mL m)) ∧ Hid (At wr (w.heap.size + 1) 193 (mL (part m 0))) ∧ Hid (At wr (w.heap.size + 1 + 1) 193 (mL (part m2 k))) ∧ Hid (Below w.heap.size w wr)) (fun i _ => 18 - (intOf i).toNat)
  case atStart => exact ⟨0, by omega, rfl, HA1, HA2, HA3, HB⟩
  case round =>
    obtain ⟨k, hk, rfl, H1, H2, H3, HW⟩ := hrel
    by_cases hlt : k < 18
    · go_wp2_with fail
      have hmk := HM.out k hlt
      have r1 := H1.out.regrown k (mL_get m k hlt)
      refine region_below_tail 7 (by kernel_rfl) (by kernel_rfl) ?_
      simp only [List.take_succ_cons, List.take_zero, List.drop_succ_cons, List.drop_zero]
      go_big_quiet_step (fail)
      refine BigFrame.wpQuiet_want rfl fun K hK => ?_
      refine quiet_load_row 193 _ rfl w.heap.size rfl 193 (mL m) _ (fun w' hw' => H1.out.below (below_of_regrown hw') H1.out.lt) Try.underlying193 rfl (by rw [mL_len]; kernel_rfl) (hK _ ?_)
      clear hK K
      (conv => arg 6; whnf)
      simp only [List.setIfInBounds_toArray, List.set_cons_succ, List.set_cons_zero, show (mL m).toArray = mA m from rfl]
      repeat (go_big_quiet_step ((go_at_call 133; exact Calls.regrown_of (of_any m (m k) _ hmk HM.out))))
      refine wpQuiet_nil ?_
      intro w4 hw2
      have hb4 : Below wr.heap.size wr w4 := below_of_regrown hw2
      clear hw2 r1
      have I1 := Lib.hid (H1.out.below hb4 H1.out.lt)
      have I2 := Lib.hid (H2.out.below hb4 H2.out.lt)
      have I3 := Lib.hid (H3.out.below hb4 H3.out.lt)
      have IW := Lib.hid (step_below HW.out hb4)
      clear hb4 H1 H2 H3 HW
      have hc := I3.out.cell k (mL_get (part m2 k) k hlt)
      have hf := I3.out.frozen k
      go_wp2
      go_round
      case rel =>
        refine ⟨k + 1, by omega, by go_num, ?h1, ?h2, ?h3, ?h4⟩
        case h1 => exact Lib.hid (I1.out.far (by simp; omega) _)
        case h2 => exact Lib.hid (I2.out.far (by simp) _)
        case h3 => exact Lib.hid ((I3.out.set k _).of_eq (by rw [show ofK m (m k) 18 = m2 k by rw [HM2.out]]; exact mL_part_set m2 k hlt))
        case h4 => exact Lib.hid (step_upd IW.out ((Upd.refl _ _).here _) (by omega))
      case measure => simp [intOf]; omega
    · obtain rfl : k = 18 := by omega
      go_wp2_with (first
        | (with_reducible refine wpList_load_at rfl 193 (.tmp 3) rfl (w.heap.size + 1 + 1) (by kernel_rfl) 193 (mL (part m2 18)) H3.out _ Try.underlying193 rfl (by rw [mL_len]; kernel_rfl) ?_)
        | (with_reducible refine wpList_store_row rfl 193 (.tmp 2) (.tmp 16) rfl rfl (w.heap.size + 1) (by kernel_rfl) (mL (part m2 18)) (by kernel_rfl) 193 (mL (part m 0)) H2.out (by rw [mL_len, mL_len]) (by rw [mL_len]; kernel_rfl) (mL_cells _) ?_))
      intro w5 hA5 hU5
      have h5 : Below w.heap.size w w5 := step_upd HW.out hU5 (by omega)
      clear hU5
      go_wp2
      (try simp only [Exit.inBlock, Exit.then])
      refine bodyPost_ret (results_cell_at rfl _ _ (w.heap.size + 1) 193 _ hA5 _ (by kernel_rfl) Try.underlying193 rfl (by rw [mL_len]; kernel_rfl)) rfl ?_
      exact ⟨by rw [mL_part_full]; rfl, h5⟩
end Go.Proofs.Ytgkbpdcedighcac
