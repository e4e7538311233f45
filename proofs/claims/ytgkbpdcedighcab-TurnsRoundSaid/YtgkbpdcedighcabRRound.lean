/-
  The walk of the reference 17's Round.
-/
import Derived.Test.YtgkbpdcedighcabRound
import Derived.Test.YtgkbpdcedighcabTurnR
namespace Go.Proofs.Ytgkbpdcedighcab
open Go.RowKit Go.Sort

theorem cvP_set (f g : Nat → Int) (k l : Nat) (hl : l < 4) :
    (rowI 4 (cvP f g (4 * k + l))).set ((k + l) % 4) (.int .i64 (cvP f g (4 * k + l) ((k + l) % 4) + f k * g l)) = rowI 4 (cvP f g (4 * k + (l + 1))) := by
  unfold rowI
  rw [rowF_set _ (Nat.mod_lt _ (by decide))]
  refine rowF_ext fun i hi => ?_
  rw [show 4 * k + (l + 1) = (4 * k + l) + 1 by omega]
  simp only [cvP]
  rw [show (4 * k + l) / 4 = k by omega, show (4 * k + l) % 4 = l by omega]
  by_cases h : (k + l) % 4 = i
  · rw [if_pos h.symm, if_pos h, h]
  · rw [if_neg (fun e => h e.symm), if_neg h, Int.add_zero]

set_option maxRecDepth 100000 in
set_option maxHeartbeats 8000000 in
theorem RRound_any (f g : Nat → Int) (w : World) :
    Calls Try.prog 23 #[.agg (rowI 4 f).toArray, .agg (rowI 4 g).toArray] w fun e w' => e = .returned (.tuple #[.agg (rowI 4 (rndV f g)).toArray, .int .i64 (rndE f g)]) ∧ Below w.heap.size w w' := by
  go_enter Try.func23, Try.ntmps23
  go_wp2_with fail
  refine allocs3 (F := fun w => Calls _ _ _ w _) ?_
  intro w1 hA2 hA3 hA4 hB1 hs1
  replace hA2 : At w1 w.heap.size 24 (rowI 4 f) := hA2
  replace hA3 : At w1 (w.heap.size + 1) 24 (rowI 4 g) := hA3
  replace hA4 : At w1 (w.heap.size + 1 + 1) 24 (rowI 4 fun _ => 0) := hA4
  have HA2 := Lib.hid hA2
  have HA3 := Lib.hid hA3
  have HA4 := Lib.hid hA4
  have HB1 := Lib.hid hB1
  clear hA2 hA3 hA4 hB1
  refine (RWrong_any (some ⟨w.heap.size, 0, none⟩) 4 4 f w1 (ints_at HA2.out) (by omega)).mono ?_
  rintro e _ ⟨rfl, rfl⟩
  have bad : rndE f g = 1 → rowI 4 (rndV f g) = rowI 4 fun _ => 0 := fun h => by unfold rowI; congr 1; funext i; rw [rndV, h]; rfl
  by_cases h0 : wrongZ f 4 = 0
  · have hf := (wrongZ_zero h0).2
    have HF := Lib.hid hf
    rw [h0]
    go_wp2_with fail
    refine (RWrong_any (some ⟨w.heap.size + 1, 0, none⟩) 4 4 g w1 (ints_at HA3.out) (by omega)).mono ?_
    rintro e _ ⟨rfl, rfl⟩
    by_cases h1 : wrongZ g 4 = 0
    · have hg := (wrongZ_zero h1).2
      have HG := Lib.hid hg
      have HE : Hid (rndE f g = 0) := Lib.hid (by rw [rndE, if_pos h0, if_pos h1])
      have HV : Hid (rowI 4 (rndV f g) = rowI 4 (cvP f g 16)) := Lib.hid (by unfold rowI; exact rowF_ext fun i hi => by rw [rndV, HE.out, cvP_16 f g i hi]; rfl)
      rw [h1]
      clear hf hg h0 h1 bad
      go_wp2_with fail
      refine allocs1 ?_
      intro w2 hA6 hb2 _
      have HA2' := Lib.hid (HA2.out.below hb2 HA2.out.lt)
      have HA3' := Lib.hid (HA3.out.below hb2 HA3.out.lt)
      have HA4' := Lib.hid (HA4.out.below hb2 HA4.out.lt)
      have HB2 := Lib.hid (step_below HB1.out hb2)
      replace hA6 : At w2 (w.heap.size + 1 + 1 + 1) 24 (rowI 4 (cvP f g (4 * 0))) := by rw [← hs1]; exact hA6
      have HA6 := Lib.hid hA6
      clear hA6 hb2 HA2 HA3 HA4 HB1
      go_wp2_with fail
      go_loopw [7] (fun i wr => ∃ k : Nat, k ≤ 4 ∧ i = .int .i64 k ∧ Hid (At wr w.heap.size 24 (rowI 4 f)) ∧ Hid (At wr (w.heap.size + 1) 24 (rowI 4 g)) ∧ Hid (At wr (w.heap.size + 1 + 1) 24 (rowI 4 fun _ => 0)) ∧ Hid (At wr (w.heap.size + 1 + 1 + 1) 24 (rowI 4 (cvP f g (4 * k)))) ∧ Hid (Below w.heap.size w wr)) (fun i _ => 4 - (intOf i).toNat)
      case atStart => exact ⟨0, by omega, rfl, HA2', HA3', HA4', HA6, HB2⟩
      case round =>
        clear HA2' HA3' HA4' HA6 HB2
        obtain ⟨k, hk, rfl, HA2, HA3, HA4, HA6, HB2⟩ := hrel
        by_cases hlt : k < 4
        · have HA6' : Hid (At wr (w.heap.size + 1 + 1 + 1) 24 (rowI 4 (cvP f g (4 * k + 0)))) := Lib.hid HA6.out
          clear HA6
          go_wp2_with fail
          go_loopw [8] (fun i wr => ∃ l : Nat, l ≤ 4 ∧ i = .int .i64 l ∧ Hid (At wr w.heap.size 24 (rowI 4 f)) ∧ Hid (At wr (w.heap.size + 1) 24 (rowI 4 g)) ∧ Hid (At wr (w.heap.size + 1 + 1) 24 (rowI 4 fun _ => 0)) ∧ Hid (At wr (w.heap.size + 1 + 1 + 1) 24 (rowI 4 (cvP f g (4 * k + l)))) ∧ Hid (Below w.heap.size w wr)) (fun i _ => 4 - (intOf i).toNat)
          case atStart => exact ⟨0, by omega, rfl, HA2, HA3, HA4, HA6', HB2⟩
          case round =>
            clear HA2 HA3 HA4 HA6' HB2
            obtain ⟨l, hl, rfl, HA2, HA3, HA4, HA6, HB2⟩ := hrel
            by_cases hll : l < 4
            · have hQ := cvP_set f g k l hll
              have hr : (k + l) % 4 < 4 := Nat.mod_lt _ (by decide)
              have i1 : ((k : Int) + (l : Int)).tmod 4 = (((k + l) % 4 : Nat) : Int) := by rw [Int.tmod_eq_emod_of_nonneg (by omega)]; rfl
              have c2 := HA2.out.cell k (rowF_get hlt)
              have c3 := HA3.out.cell l (rowF_get hll)
              have c6 := HA6.out.cell ((k + l) % 4) (rowF_get hr)
              have m1 := mul_le36 _ _ (HF.out k hlt) (HG.out l hll)
              have m2 := cvP_le f g HF.out HG.out ((k + l) % 4) (4 * k + l) (by omega)
              have m3 : -(68719476736 * 16 : Int) ≤ cvP f g (4 * k + l) ((k + l) % 4) ∧ cvP f g (4 * k + l) ((k + l) % 4) ≤ 68719476736 * 16 := by omega
              have hk0 : (0 : Int) ≤ (k : Int) := by omega
              have hk4 : (k : Int) < 4 := by omega
              have hl0 : (0 : Int) ≤ (l : Int) := by omega
              have hl4 : (l : Int) < 4 := by omega
              have HQ := Lib.hid hQ
              generalize cvP f g (4 * k + l) ((k + l) % 4) = t at *
              generalize (k + l) % 4 = r at *
              have hr0 : (0 : Int) ≤ (r : Int) := by omega
              have hr4 : (r : Int) < 4 := by omega
              generalize f k = p at *
              generalize g l = q at *
              clear m2 hQ
              go_wp2_with fail
              refine region_drew_tail 19 (by kernel_rfl) (by kernel_rfl) ?_
              simp only [List.take_succ_cons, List.take_zero, List.drop_succ_cons, List.drop_zero]
              repeat (go_big_quiet_step ((fail)))
              refine wpQuiet_nil ?_
              intro _ hw'
              obtain ⟨nq, rfl⟩ := hw'
              go_wp2_with (with_reducible refine wpList_store_cell rfl 3 (.tmp 44) (.tmp 43) rfl rfl (w.heap.size + 1 + 1 + 1) r rfl (.int .i64 (t + p * q)) rfl 24 (rowI 4 (cvP f g (4 * k + l))) (HA6.out.drewN nq) (by simp [rowI, hr]) (by kernel_rfl) rfl rfl ?_)
              intro w3 hA hU
              have HA6' := Lib.hid (hA.of_eq HQ.out)
              have HA2' := Lib.hid ((HA2.out.drewN nq).upd hU (by omega))
              have HA3' := Lib.hid ((HA3.out.drewN nq).upd hU (by omega))
              have HA4' := Lib.hid ((HA4.out.drewN nq).upd hU (by omega))
              have HB2' := Lib.hid (step_upd (belowN HB2.out nq) hU (by omega))
              clear hA hU HA2 HA3 HA4 HA6 HB2 c2 c3 c6 m1 m3 i1
              go_wp2
              go_roundw
              case rel => exact ⟨l + 1, by omega, by go_num, HA2', HA3', HA4', HA6', HB2'⟩
              case measure => simp [intOf]; omega
            · obtain rfl : l = 4 := by omega
              have HA6' : Hid (At wr (w.heap.size + 1 + 1 + 1) 24 (rowI 4 (cvP f g (4 * (k + 1))))) := Lib.hid HA6.out
              clear HA6
              go_wp2
              go_roundw
              case rel => exact ⟨k + 1, by omega, by go_num, HA2, HA3, HA4, HA6', HB2⟩
              case measure => simp [intOf]; omega
        · obtain rfl : k = 4 := by omega
          have HA6' : Hid (At wr (w.heap.size + 1 + 1 + 1) 24 (rowI 4 (cvP f g 16))) := Lib.hid HA6.out
          go_wp2_with (first
            | (with_reducible refine wpList_load_at rfl 24 (.tmp 6) rfl (w.heap.size + 1 + 1 + 1) (by kernel_rfl) 24 (rowI 4 (cvP f g 16)) HA6'.out _ Try.underlying24 rfl (by kernel_rfl) ?_)
            | (with_reducible refine wpList_store_row rfl 24 (.tmp 4) (.tmp 45) rfl rfl (w.heap.size + 1 + 1) (by kernel_rfl) (rowI 4 (cvP f g 16)) (by kernel_rfl) 24 (rowI 4 fun _ => 0) HA4.out (by kernel_rfl) (by kernel_rfl) (rowI_one _ _) ?_))
          intro w5 hA6 hU6
          have h5 : Below w.heap.size w w5 := step_upd HB2.out hU6 (by omega)
          clear hU6
          go_wp2
          (try simp only [Exit.inBlock, Exit.then])
          refine bodyPost_ret (results_cell_at2 rfl _ _ (w.heap.size + 1 + 1) 24 _ hA6 _ (by kernel_rfl) Try.underlying24 rfl (by kernel_rfl)) rfl ?_
          exact ⟨by rw [HV.out, HE.out]; rfl, h5⟩
    · have HE : Hid (rndE f g = 1) := Lib.hid (by rw [rndE, if_pos h0, if_neg h1])
      have HV := Lib.hid (bad HE.out)
      have hd : (wrongZ g 4 != 0) = true := by rw [bne_iff_ne]; exact h1
      clear h0 h1 bad
      generalize wrongZ g 4 = wz at *
      go_wp2_with (with_reducible refine wpList_store_row rfl 24 (.tmp 4) (.tmp 17) rfl rfl (w.heap.size + 1 + 1) (by kernel_rfl) (rowI 4 fun _ => 0) (by kernel_rfl) 24 (rowI 4 fun _ => 0) HA4.out (by kernel_rfl) (by kernel_rfl) (rowI_one _ _) ?_)
      intro w5 hA5 hU5
      have h5 : Below w.heap.size w w5 := step_upd HB1.out hU5 (by omega)
      clear hU5
      go_wp2
      (try simp only [Exit.inBlock, Exit.then])
      refine bodyPost_ret (results_cell_at2 rfl _ _ (w.heap.size + 1 + 1) 24 _ hA5 _ (by kernel_rfl) Try.underlying24 rfl (by kernel_rfl)) rfl ?_
      exact ⟨by rw [HV.out, HE.out]; rfl, h5⟩
  · have HE : Hid (rndE f g = 1) := Lib.hid (by rw [rndE, if_neg h0])
    have HV := Lib.hid (bad HE.out)
    have hd : (wrongZ f 4 != 0) = true := by rw [bne_iff_ne]; exact h0
    clear h0 bad
    generalize wrongZ f 4 = wz at *
    go_wp2_with (with_reducible refine wpList_store_row rfl 24 (.tmp 4) (.tmp 17) rfl rfl (w.heap.size + 1 + 1) (by kernel_rfl) (rowI 4 fun _ => 0) (by kernel_rfl) 24 (rowI 4 fun _ => 0) HA4.out (by kernel_rfl) (by kernel_rfl) (rowI_one _ _) ?_)
    intro w5 hA5 hU5
    have h5 : Below w.heap.size w w5 := step_upd HB1.out hU5 (by omega)
    clear hU5
    go_wp2
    (try simp only [Exit.inBlock, Exit.then])
    refine bodyPost_ret (results_cell_at2 rfl _ _ (w.heap.size + 1 + 1) 24 _ hA5 _ (by kernel_rfl) Try.underlying24 rfl (by kernel_rfl)) rfl ?_
    exact ⟨by rw [HV.out, HE.out]; rfl, h5⟩
end Go.Proofs.Ytgkbpdcedighcab
