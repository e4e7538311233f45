/-
  Of layer 17: more walks.
-/
import Derived.Test.YtgkbpdcedighcabTurnF
import Derived.Test.YtgkbpdcedighcabTurnWR
import Derived.Test.YtgkbpdcedighcabTurnX
namespace Go.Proofs.Ytgkbpdcedighcab
open Go.RowKit Go.Sort

set_option maxRecDepth 100000 in
set_option maxHeartbeats 2000000 in
theorem Fold_any (a : Option Addr) (n cap : Nat) (z : Nat → Int) (w : World) (hz : IntsAt w a n z) (hn : n ≤ 4611686018427387904) :
    Calls Try.prog 50 #[.slice a n cap] w fun e w' => e = .returned (.tuple #[.agg (rowI 4 (foldR z n)).toArray, .int .i64 (wrongZ z n)]) ∧ Below w.heap.size w w' := by
  have HZ := Lib.hid hz
  clear hz
  go_enter Try.func50, Try.ntmps50
  go_wp2_with fail
  refine allocs2 (F := fun w => Calls _ _ _ w _) ?_
  intro w1 hA0 hA1 hB1 _
  replace hA0 : At w1 w.heap.size 24 (rowI 4 fun _ => 0) := hA0
  replace hA1 : At w1 (w.heap.size + 1) 24 (rowI 4 (foldZ z 0)) := hA1
  refine (Wrong_any a n cap z w1 (HZ.out.step hB1) hn).mono ?_
  rintro e _ ⟨rfl, rfl⟩
  have HA0 := Lib.hid hA0
  have HA1 := Lib.hid hA1
  have HB1 := Lib.hid hB1
  clear hA0 hA1 hB1
  by_cases h0 : wrongZ z n = 0
  · have hN := wrongZ_zero h0
    have HB := Lib.hid hN.2
    have HF : Hid (rowI 4 (foldR z n) = rowI 4 (foldZ z n)) := Lib.hid (by unfold rowI; congr 1; funext i; rw [foldR, if_pos h0])
    have HW := Lib.hid h0
    have hn2 := hN.1
    rw [h0]
    clear h0 hN
    go_wp2_with fail
    go_loopw [16] (fun i wr => ∃ k : Nat, k ≤ n ∧ i = .int .i64 k ∧ Hid (At wr w.heap.size 24 (rowI 4 fun _ => 0)) ∧ Hid (At wr (w.heap.size + 1) 24 (rowI 4 (foldZ z k))) ∧ Hid (Below w.heap.size w wr)) (fun i _ => n - (intOf i).toNat)
    case atStart => exact ⟨0, by omega, rfl, HA0, HA1, HB1⟩
    case round =>
      clear HA0 HA1 HB1
      obtain ⟨k, hk, rfl, HA0, HA1, HB1⟩ := hrel
      by_cases hlt : k < n
      · obtain ⟨b, off, rfl, hbw, hc⟩ := HZ.out k hlt
        replace hc := (HB1.out.cell (p := ⟨b, off + k, none⟩) hbw).trans hc
        have hzb := HB.out k hlt
        obtain ⟨r, hr⟩ : ∃ r, r = k % 4 := ⟨_, rfl⟩
        have e1 : (k : Int).tmod 4 = (r : Int) := by rw [Int.tmod_eq_emod_of_nonneg (by omega)]; omega
        have hr4 : r < 4 := by omega
        have hck := HA1.out.cell r (v := .int .i64 (foldZ z k r)) (rowF_get hr4)
        have hfk := HA1.out.frozen r
        have hle := foldZ_le z 262144 r (by omega) k fun i hi => HB.out i (by omega)
        have hs : Hid ((rowI 4 (foldZ z k)).set r (.int .i64 (foldZ z k r + z k)) = rowI 4 (foldZ z (k + 1))) := Lib.hid (by
          unfold rowI
          rw [rowF_set _ hr4]
          refine rowF_ext fun i _ => ?_
          by_cases hir : i = r
          · subst hir; rw [if_pos rfl, foldZ, if_pos hr.symm]
          · rw [if_neg hir, foldZ, if_neg (by omega), Int.add_zero])
        generalize foldZ z k r = f at *
        generalize z k = x at *
        have hb1 : -9223372036854775808 ≤ f + x ∧ f + x ≤ 9223372036854775807 := by omega
        clear hr hle hzb
        go_wp2
        go_round
        case rel =>
          refine ⟨k + 1, by omega, by go_num, Lib.hid (HA0.out.far (by simp) _), Lib.hid ((HA1.out.set r _).of_eq ?_), Lib.hid (step_upd HB1.out ((Upd.refl _ _).here _) (by omega))⟩
          exact hs.out
        case measure => simp [intOf]; omega
      · obtain rfl : k = n := by omega
        go_wp2_with (first
          | (with_reducible refine wpList_load_at rfl 24 (.tmp 4) rfl (w.heap.size + 1) (by kernel_rfl) 24 (rowI 4 (foldZ z k)) HA1.out _ Try.underlying24 rfl (by kernel_rfl) ?_)
          | (with_reducible refine wpList_store_row rfl 24 (.tmp 2) (.tmp 29) rfl rfl w.heap.size (by kernel_rfl) (rowI 4 (foldZ z k)) (by kernel_rfl) 24 (rowI 4 fun _ => 0) HA0.out (by kernel_rfl) (by kernel_rfl) (rowI_one _ _) ?_))
        intro w5 hA5 hU5
        have h5 : Below w.heap.size w w5 := step_upd HB1.out hU5 (by omega)
        clear hU5
        go_wp2
        (try simp only [Exit.inBlock, Exit.then])
        refine bodyPost_ret (results_cell_at2 rfl _ _ w.heap.size 24 _ hA5 _ (by kernel_rfl) Try.underlying24 rfl (by kernel_rfl)) rfl ?_
        exact ⟨by rw [HF.out, HW.out]; rfl, h5⟩
  · have HF : Hid (rowI 4 (foldR z n) = rowI 4 fun _ => 0) := Lib.hid (by unfold rowI; congr 1; funext i; rw [foldR, if_neg h0])
    have HE : Hid (wrongZ z n = wrongZ z n) := Lib.hid rfl
    generalize hx : wrongZ z n = x at h0 HE ⊢
    have HX := Lib.hid hx
    clear hx HE
    have h1 : (x != 0) = true := by simpa using h0
    go_wp2_with (first
      | (with_reducible refine wpList_load_at rfl 24 (.tmp 4) rfl (w.heap.size + 1) (by kernel_rfl) 24 (rowI 4 (foldZ z 0)) HA1.out _ Try.underlying24 rfl (by kernel_rfl) ?_)
      | (with_reducible refine wpList_store_row rfl 24 (.tmp 2) (.tmp 12) rfl rfl w.heap.size (by kernel_rfl) (rowI 4 (foldZ z 0)) (by kernel_rfl) 24 (rowI 4 fun _ => 0) HA0.out (by kernel_rfl) (by kernel_rfl) (rowI_one _ _) ?_))
    intro w5 hA5 hU5
    have h5 : Below w.heap.size w w5 := step_upd HB1.out hU5 (by omega)
    clear hU5
    go_wp2
    (try simp only [Exit.inBlock, Exit.then])
    refine bodyPost_ret (results_cell_at2 rfl _ _ w.heap.size 24 _ hA5 _ (by kernel_rfl) Try.underlying24 rfl (by kernel_rfl)) rfl ?_
    exact ⟨by rw [HF.out, HX.out]; rfl, h5⟩

set_option maxRecDepth 100000 in
set_option maxHeartbeats 2000000 in
theorem RFold_any (a : Option Addr) (n cap : Nat) (z : Nat → Int) (w : World) (hz : IntsAt w a n z) (hn : n ≤ 4611686018427387904) :
    Calls Try.prog 19 #[.slice a n cap] w fun e w' => e = .returned (.tuple #[.agg (rowI 4 (foldR z n)).toArray, .int .i64 (wrongZ z n)]) ∧ Below w.heap.size w w' := by
  have HZ := Lib.hid hz
  clear hz
  go_enter Try.func19, Try.ntmps19
  go_wp2_with fail
  refine allocs2 (F := fun w => Calls _ _ _ w _) ?_
  intro w1 hA0 hA1 hB1 _
  replace hA0 : At w1 w.heap.size 24 (rowI 4 fun _ => 0) := hA0
  replace hA1 : At w1 (w.heap.size + 1) 24 (rowI 4 (foldZ z 0)) := hA1
  refine (RWrong_any a n cap z w1 (HZ.out.step hB1) hn).mono ?_
  rintro e _ ⟨rfl, rfl⟩
  have HA0 := Lib.hid hA0
  have HA1 := Lib.hid hA1
  have HB1 := Lib.hid hB1
  clear hA0 hA1 hB1
  by_cases h0 : wrongZ z n = 0
  · have hN := wrongZ_zero h0
    have HB := Lib.hid hN.2
    have HF : Hid (rowI 4 (foldR z n) = rowI 4 (foldZ z n)) := Lib.hid (by unfold rowI; congr 1; funext i; rw [foldR, if_pos h0])
    have HW := Lib.hid h0
    have hn2 := hN.1
    rw [h0]
    clear h0 hN
    go_wp2_with fail
    go_loopw [6] (fun i wr => ∃ k : Nat, k ≤ n ∧ i = .int .i64 k ∧ Hid (At wr w.heap.size 24 (rowI 4 fun _ => 0)) ∧ Hid (At wr (w.heap.size + 1) 24 (rowI 4 (foldZ z k))) ∧ Hid (Below w.heap.size w wr)) (fun i _ => n - (intOf i).toNat)
    case atStart => exact ⟨0, by omega, rfl, HA0, HA1, HB1⟩
    case round =>
      clear HA0 HA1 HB1
      obtain ⟨k, hk, rfl, HA0, HA1, HB1⟩ := hrel
      by_cases hlt : k < n
      · obtain ⟨b, off, rfl, hbw, hc⟩ := HZ.out k hlt
        replace hc := (HB1.out.cell (p := ⟨b, off + k, none⟩) hbw).trans hc
        have hzb := HB.out k hlt
        obtain ⟨r, hr⟩ : ∃ r, r = k % 4 := ⟨_, rfl⟩
        have e1 : (k : Int).tmod 4 = (r : Int) := by rw [Int.tmod_eq_emod_of_nonneg (by omega)]; omega
        have hr4 : r < 4 := by omega
        have hck := HA1.out.cell r (v := .int .i64 (foldZ z k r)) (rowF_get hr4)
        have hfk := HA1.out.frozen r
        have hle := foldZ_le z 262144 r (by omega) k fun i hi => HB.out i (by omega)
        have hs : Hid ((rowI 4 (foldZ z k)).set r (.int .i64 (foldZ z k r + z k)) = rowI 4 (foldZ z (k + 1))) := Lib.hid (by
          unfold rowI
          rw [rowF_set _ hr4]
          refine rowF_ext fun i _ => ?_
          by_cases hir : i = r
          · subst hir; rw [if_pos rfl, foldZ, if_pos hr.symm]
          · rw [if_neg hir, foldZ, if_neg (by omega), Int.add_zero])
        have hst := fun nq => store_fact (P := Try.prog) (HA1.out.drewN nq) r (by simp [rowI, hr4]) (.int .i64 (foldZ z k r + z k)) rfl
        generalize foldZ z k r = f at *
        generalize z k = x at *
        have hb1 : -9223372036854775808 ≤ f + x ∧ f + x ≤ 9223372036854775807 := by omega
        clear hr hle hzb
        go_wp2_with fail
        refine region_drew_tail 12 (by kernel_rfl) (by kernel_rfl) ?_
        simp only [List.take_succ_cons, List.take_zero, List.drop_succ_cons, List.drop_zero]
        repeat (go_big_quiet_step ((fail)))
        refine wpQuiet_nil ?_
        intro _ hw'
        obtain ⟨nq, rfl⟩ := hw'
        have hst2 := hst nq
        clear hst
        go_wp2
        go_round
        case rel =>
          refine ⟨k + 1, by omega, by go_num, Lib.hid ((HA0.out.drewN nq).far (by simp) _), Lib.hid (((HA1.out.drewN nq).set r _).of_eq ?_), Lib.hid (step_upd HB1.out (((Upd.refl (· = w.heap.size + 1) _).drewN nq).here _) (by omega))⟩
          exact hs.out
        case measure => simp [intOf]; omega
      · obtain rfl : k = n := by omega
        go_wp2_with (first
          | (with_reducible refine wpList_load_at rfl 24 (.tmp 4) rfl (w.heap.size + 1) (by kernel_rfl) 24 (rowI 4 (foldZ z k)) HA1.out _ Try.underlying24 rfl (by kernel_rfl) ?_)
          | (with_reducible refine wpList_store_row rfl 24 (.tmp 2) (.tmp 31) rfl rfl w.heap.size (by kernel_rfl) (rowI 4 (foldZ z k)) (by kernel_rfl) 24 (rowI 4 fun _ => 0) HA0.out (by kernel_rfl) (by kernel_rfl) (rowI_one _ _) ?_))
        intro w5 hA5 hU5
        have h5 : Below w.heap.size w w5 := step_upd HB1.out hU5 (by omega)
        clear hU5
        go_wp2
        (try simp only [Exit.inBlock, Exit.then])
        refine bodyPost_ret (results_cell_at2 rfl _ _ w.heap.size 24 _ hA5 _ (by kernel_rfl) Try.underlying24 rfl (by kernel_rfl)) rfl ?_
        exact ⟨by rw [HF.out, HW.out]; rfl, h5⟩
  · have HF : Hid (rowI 4 (foldR z n) = rowI 4 fun _ => 0) := Lib.hid (by unfold rowI; congr 1; funext i; rw [foldR, if_neg h0])
    have HE : Hid (wrongZ z n = wrongZ z n) := Lib.hid rfl
    generalize hx : wrongZ z n = x at h0 HE ⊢
    have HX := Lib.hid hx
    clear hx HE
    have h1 : (x != 0) = true := by simpa using h0
    go_wp2_with (first
      | (with_reducible refine wpList_load_at rfl 24 (.tmp 4) rfl (w.heap.size + 1) (by kernel_rfl) 24 (rowI 4 (foldZ z 0)) HA1.out _ Try.underlying24 rfl (by kernel_rfl) ?_)
      | (with_reducible refine wpList_store_row rfl 24 (.tmp 2) (.tmp 11) rfl rfl w.heap.size (by kernel_rfl) (rowI 4 (foldZ z 0)) (by kernel_rfl) 24 (rowI 4 fun _ => 0) HA0.out (by kernel_rfl) (by kernel_rfl) (rowI_one _ _) ?_))
    intro w5 hA5 hU5
    have h5 : Below w.heap.size w w5 := step_upd HB1.out hU5 (by omega)
    clear hU5
    go_wp2
    (try simp only [Exit.inBlock, Exit.then])
    refine bodyPost_ret (results_cell_at2 rfl _ _ w.heap.size 24 _ hA5 _ (by kernel_rfl) Try.underlying24 rfl (by kernel_rfl)) rfl ?_
    exact ⟨by rw [HF.out, HX.out]; rfl, h5⟩
end Go.Proofs.Ytgkbpdcedighcab
