/-
  The walk of the reference 15's Voice. Printed by gen_rpsgv.py.
-/
import Derived.Test.YtgkbpdcedighcacRPsg
namespace Go.Proofs.Ytgkbpdcedighcac
open Go.RowKit Go.Sort NoiseP

set_option maxRecDepth 100000 in
set_option maxHeartbeats 8000000 in
theorem RVoice_P (i : Nat) (g : Nat) (c b : Nat → Nat) (y : PS) (w : World) (h : RP w g c b y) (hy : y.Ok) (hi : i < 6) :
    Calls Try.prog 28 #[.pointer (some ⟨g, 0, none⟩), .int .i64 (i : Int)] w fun e w' => e = .returned (.agg (y.vo i).cs.toArray) ∧ Below w.heap.size w w' := by
  have HG := Lib.hid h
  have HY := Lib.hid hy
  have hok := hy.x i hi
  have hco := hok.co
  have hba := hok.ba
  have hln := lvW_nat (y.x i).co (y.x i).to (y.x i).ny (y.x i).wv (y.x i).pl (y.x i).s hok.to hok.wv
  have hi0 : (0 : Int) ≤ (i : Int) := by omega
  have hi6 : (i : Int) < 6 := by omega
  obtain ⟨r0, hr0⟩ : ∃ r, (lvW (y.x i).co (y.x i).to (y.x i).ny (y.x i).wv (y.x i).pl (y.x i).s).toNat = r := ⟨_, rfl⟩
  obtain ⟨r1, hr1⟩ : ∃ r, (y.x i).co % 32 = r := ⟨_, rfl⟩
  obtain ⟨r2, hr2⟩ : ∃ r, (y.x i).ba / 16 = r := ⟨_, rfl⟩
  obtain ⟨r3, hr3⟩ : ∃ r, (y.x i).ba % 16 = r := ⟨_, rfl⟩
  have e1 : ((y.x i).co : Int).tmod 32 = (r1 : Int) := by rw [Int.tmod_eq_emod_of_nonneg (by omega)]; omega
  have e2 : ((y.x i).ba : Int).tdiv 16 = (r2 : Int) := by rw [Int.tdiv_eq_ediv_of_nonneg (by omega)]; omega
  have e3 : ((y.x i).ba : Int).tmod 16 = (r3 : Int) := by rw [Int.tmod_eq_emod_of_nonneg (by omega)]; omega
  have b1 : r1 < 32 := by omega
  have b2 : r2 < 16 := by omega
  have b3 : r3 < 16 := by omega
  have HYES : Hid (128 ≤ (y.x i).co ∧ ¬ (i = 1 ∧ y.bd % 4 ≠ 0) → (y.vo i).cs = [.int .u8 (r0 : Int), .int .u8 (r1 : Int), .int .u8 (r2 : Int), .int .u8 (r3 : Int)]) := Lib.hid fun h => by
    rw [PS.vo, if_pos h, ← hr0, ← hr1, ← hr2, ← hr3]; rfl
  have HNO : Hid (¬ (128 ≤ (y.x i).co ∧ ¬ (i = 1 ∧ y.bd % 4 ≠ 0)) → (y.vo i).cs = [.int .u8 0, .int .u8 0, .int .u8 0, .int .u8 0]) := Lib.hid fun h => by
    rw [PS.vo, if_neg h]; rfl
  have HLV : Hid (lvW (y.x i).co (y.x i).to (y.x i).ny (y.x i).wv (y.x i).pl (y.x i).s = (r0 : Int)) := Lib.hid (by rw [← hr0, Int.toNat_of_nonneg hln.1])
  have HOK := Lib.hid hok
  clear h hy hln hr0 hr1 hr2 hr3 hok
  by_cases hon : 128 ≤ (y.x i).co
  · have dl : decide (((y.x i).co : Int) < 128) = false := by rw [decide_eq_false_iff_not]; omega
    by_cases h1 : i = 1
    · have q1 : ((i : Int) == 1) = true := by rw [beq_iff_eq]; omega
      have H1 := Lib.hid h1
      clear h1
      by_cases hd : y.bd % 4 = 0
      · go_enter Try.func28, Try.ntmps28
        have hnew : At (w.alloc (.cells #[.int .u8 0, .int .u8 0, .int .u8 0, .int .u8 0] 42)) w.heap.size 42 [.int .u8 0, .int .u8 0, .int .u8 0, .int .u8 0] := At.new w _ _
        have hbn : Below w.heap.size w (w.alloc (.cells #[.int .u8 0, .int .u8 0, .int .u8 0, .int .u8 0] 42)) := (Below.refl _ w).alloc (Nat.le_refl _) _
        have hG1 := HG.out.below hbn
        have ci : (w.alloc (.cells #[.int .u8 0, .int .u8 0, .int .u8 0, .int .u8 0] 42)).cell? ⟨g, i, none⟩ = some (.pointer (some ⟨c i, 0, none⟩)) := hG1.g.cell i (pz_get (p := fun i => ptr (c i)) hi)
        have ch3 : (w.alloc (.cells #[.int .u8 0, .int .u8 0, .int .u8 0, .int .u8 0] 42)).cell? ⟨c i, 3, none⟩ = some (.int .u8 ((y.x i).co : Int)) := (hG1.x i hi).d.cell 3 rfl
        go_wp2_with fail
        generalize hwg : w.alloc (.cells #[.int .u8 0, .int .u8 0, .int .u8 0, .int .u8 0] 42) = w1 at *
        clear hwg
        refine (RDepth_any g c b y w1 hG1 HY.out).mono ?_
        rintro e w2 ⟨rfl, hb2⟩
        have hG2 := hG1.below hb2
        have hA2 := hnew.below hb2 hnew.lt
        have hB2 := step_below hbn hb2
        clear hb2 hG1 hnew hbn ci ch3
        rw [hd, show depT 0 = 0 from rfl]
        have hx := hG2.x i hi
        have v3 := hx.d.cell 3 rfl
        have v4 := hx.d.cell 4 rfl
        replace v3 : w2.cell? ⟨c i, 3, none⟩ = some (.int .u8 ((y.x i).co : Int)) := v3
        replace v4 : w2.cell? ⟨c i, 4, none⟩ = some (.int .u8 ((y.x i).ba : Int)) := v4
        have hs4 : (y.x i).s < 4294967296 := by have := HOK.out.s; omega
        have k1 := fun n => QLevel_any (c i) (b i) (y.x i).fr (y.x i).be (y.x i).co (y.x i).ba (y.x i).to (y.x i).ny (y.x i).wv (y.x i).pl (y.x i).lf (w2.drewN n) (y.x i).s (y.x i).l (y.x i).f (hx.d.drewN n) (hx.g.drewN n) hco hs4 HOK.out.pl
        rw [HLV.out] at k1
        go_wp2_with fail
        refine region_drew_tail 18 (by kernel_rfl) (by kernel_rfl) ?_
        simp only [List.take_succ_cons, List.take_zero, List.drop_succ_cons, List.drop_zero]
        repeat (go_big_quiet_step ((first | (go_at_call 73; exact Calls.quiet_of (k1 _)))))
        refine wpQuiet_nil ?_
        intro _ hw'
        obtain ⟨nq, rfl⟩ := hw'
        have hA7 := hA2.drewN nq
        have hB7 : Below w.heap.size w (w2.drewN nq) := ⟨hB2.os, hB2.tape, hB2.output, hB2.size, hB2.block⟩
        have hone0 : ∀ v ∈ ([.int .u8 (r0 : Int), .int .u8 (r1 : Int), .int .u8 (r2 : Int), .int .u8 (r3 : Int)] : List Value), v.oneCell' = true := by intro v hv; simp only [List.mem_cons, List.not_mem_nil, or_false] at hv; rcases hv with rfl | rfl | rfl | rfl <;> rfl
        go_wp2_with (with_reducible refine wpList_store_row rfl 42 (.tmp 4) (.tmp 44) rfl rfl w.heap.size (by kernel_rfl) [.int .u8 (r0 : Int), .int .u8 (r1 : Int), .int .u8 (r2 : Int), .int .u8 (r3 : Int)] (by kernel_rfl) 42 [.int .u8 0, .int .u8 0, .int .u8 0, .int .u8 0] hA7 (by kernel_rfl) (by kernel_rfl) hone0 ?_)
        intro w5 hA5 hU5
        have hB5 := step_upd hB7 hU5 (Nat.le_refl _)
        go_wp2
        (try simp only [Exit.inBlock, Exit.then])
        rw [← HYES.out (⟨hon, fun h => h.2 hd⟩)] at hA5
        refine bodyPost_ret (results_cell_at rfl _ _ w.heap.size 42 _ hA5 _ (by kernel_rfl) Try.underlying42 rfl (by kernel_rfl)) rfl ?_
        exact ⟨rfl, hB5⟩
      · have hd0 : (depT (y.bd % 4) != 0) = true := by
          rw [bne_iff_ne]
          unfold depT
          repeat' split
          all_goals omega
        go_enter Try.func28, Try.ntmps28
        have hnew : At (w.alloc (.cells #[.int .u8 0, .int .u8 0, .int .u8 0, .int .u8 0] 42)) w.heap.size 42 [.int .u8 0, .int .u8 0, .int .u8 0, .int .u8 0] := At.new w _ _
        have hbn : Below w.heap.size w (w.alloc (.cells #[.int .u8 0, .int .u8 0, .int .u8 0, .int .u8 0] 42)) := (Below.refl _ w).alloc (Nat.le_refl _) _
        have hG1 := HG.out.below hbn
        have ci : (w.alloc (.cells #[.int .u8 0, .int .u8 0, .int .u8 0, .int .u8 0] 42)).cell? ⟨g, i, none⟩ = some (.pointer (some ⟨c i, 0, none⟩)) := hG1.g.cell i (pz_get (p := fun i => ptr (c i)) hi)
        have ch3 : (w.alloc (.cells #[.int .u8 0, .int .u8 0, .int .u8 0, .int .u8 0] 42)).cell? ⟨c i, 3, none⟩ = some (.int .u8 ((y.x i).co : Int)) := (hG1.x i hi).d.cell 3 rfl
        go_wp2_with fail
        generalize hwg : w.alloc (.cells #[.int .u8 0, .int .u8 0, .int .u8 0, .int .u8 0] 42) = w1 at *
        clear hwg
        refine (RDepth_any g c b y w1 hG1 HY.out).mono ?_
        rintro e w2 ⟨rfl, hb2⟩
        have hG2 := hG1.below hb2
        have hA2 := hnew.below hb2 hnew.lt
        have hB2 := step_below hbn hb2
        clear hb2 hG1 hnew hbn ci ch3
        have hone0 : ∀ v ∈ ([.int .u8 0, .int .u8 0, .int .u8 0, .int .u8 0] : List Value), v.oneCell' = true := by intro v hv; simp only [List.mem_cons, List.not_mem_nil, or_false] at hv; rcases hv with rfl | rfl | rfl | rfl <;> rfl
        go_wp2_with (with_reducible refine wpList_store_row rfl 42 (.tmp 4) (.tmp 26) rfl rfl w.heap.size (by kernel_rfl) [.int .u8 0, .int .u8 0, .int .u8 0, .int .u8 0] (by kernel_rfl) 42 [.int .u8 0, .int .u8 0, .int .u8 0, .int .u8 0] hA2 (by kernel_rfl) (by kernel_rfl) hone0 ?_)
        intro w5 hA5 hU5
        have hB5 := step_upd hB2 hU5 (Nat.le_refl _)
        go_wp2
        (try simp only [Exit.inBlock, Exit.then])
        rw [← HNO.out (fun h => h.2 ⟨H1.out, hd⟩)] at hA5
        refine bodyPost_ret (results_cell_at rfl _ _ w.heap.size 42 _ hA5 _ (by kernel_rfl) Try.underlying42 rfl (by kernel_rfl)) rfl ?_
        exact ⟨rfl, hB5⟩
    · have q1 : ((i : Int) == 1) = false := by rw [beq_eq_false_iff_ne]; omega
      go_enter Try.func28, Try.ntmps28
      have hnew : At (w.alloc (.cells #[.int .u8 0, .int .u8 0, .int .u8 0, .int .u8 0] 42)) w.heap.size 42 [.int .u8 0, .int .u8 0, .int .u8 0, .int .u8 0] := At.new w _ _
      have hbn : Below w.heap.size w (w.alloc (.cells #[.int .u8 0, .int .u8 0, .int .u8 0, .int .u8 0] 42)) := (Below.refl _ w).alloc (Nat.le_refl _) _
      have hG1 := HG.out.below hbn
      have ci : (w.alloc (.cells #[.int .u8 0, .int .u8 0, .int .u8 0, .int .u8 0] 42)).cell? ⟨g, i, none⟩ = some (.pointer (some ⟨c i, 0, none⟩)) := hG1.g.cell i (pz_get (p := fun i => ptr (c i)) hi)
      have ch3 : (w.alloc (.cells #[.int .u8 0, .int .u8 0, .int .u8 0, .int .u8 0] 42)).cell? ⟨c i, 3, none⟩ = some (.int .u8 ((y.x i).co : Int)) := (hG1.x i hi).d.cell 3 rfl
      go_wp2_with fail
      generalize hwg : w.alloc (.cells #[.int .u8 0, .int .u8 0, .int .u8 0, .int .u8 0] 42) = w1 at *
      clear hwg
      have hx := hG1.x i hi
      have v3 := hx.d.cell 3 rfl
      have v4 := hx.d.cell 4 rfl
      replace v3 : w1.cell? ⟨c i, 3, none⟩ = some (.int .u8 ((y.x i).co : Int)) := v3
      replace v4 : w1.cell? ⟨c i, 4, none⟩ = some (.int .u8 ((y.x i).ba : Int)) := v4
      have hs4 : (y.x i).s < 4294967296 := by have := HOK.out.s; omega
      have k1 := fun n => QLevel_any (c i) (b i) (y.x i).fr (y.x i).be (y.x i).co (y.x i).ba (y.x i).to (y.x i).ny (y.x i).wv (y.x i).pl (y.x i).lf (w1.drewN n) (y.x i).s (y.x i).l (y.x i).f (hx.d.drewN n) (hx.g.drewN n) hco hs4 HOK.out.pl
      rw [HLV.out] at k1
      go_wp2_with fail
      refine region_drew_tail 18 (by kernel_rfl) (by kernel_rfl) ?_
      simp only [List.take_succ_cons, List.take_zero, List.drop_succ_cons, List.drop_zero]
      repeat (go_big_quiet_step ((first | (go_at_call 73; exact Calls.quiet_of (k1 _)))))
      refine wpQuiet_nil ?_
      intro _ hw'
      obtain ⟨nq, rfl⟩ := hw'
      have hA7 := hnew.drewN nq
      have hB7 : Below w.heap.size w (w1.drewN nq) := ⟨hbn.os, hbn.tape, hbn.output, hbn.size, hbn.block⟩
      have hone0 : ∀ v ∈ ([.int .u8 (r0 : Int), .int .u8 (r1 : Int), .int .u8 (r2 : Int), .int .u8 (r3 : Int)] : List Value), v.oneCell' = true := by intro v hv; simp only [List.mem_cons, List.not_mem_nil, or_false] at hv; rcases hv with rfl | rfl | rfl | rfl <;> rfl
      go_wp2_with (with_reducible refine wpList_store_row rfl 42 (.tmp 4) (.tmp 44) rfl rfl w.heap.size (by kernel_rfl) [.int .u8 (r0 : Int), .int .u8 (r1 : Int), .int .u8 (r2 : Int), .int .u8 (r3 : Int)] (by kernel_rfl) 42 [.int .u8 0, .int .u8 0, .int .u8 0, .int .u8 0] hA7 (by kernel_rfl) (by kernel_rfl) hone0 ?_)
      intro w5 hA5 hU5
      have hB5 := step_upd hB7 hU5 (Nat.le_refl _)
      go_wp2
      (try simp only [Exit.inBlock, Exit.then])
      rw [← HYES.out (⟨hon, fun h => h1 h.1⟩)] at hA5
      refine bodyPost_ret (results_cell_at rfl _ _ w.heap.size 42 _ hA5 _ (by kernel_rfl) Try.underlying42 rfl (by kernel_rfl)) rfl ?_
      exact ⟨rfl, hB5⟩
  · have dl : decide (((y.x i).co : Int) < 128) = true := by rw [decide_eq_true_eq]; omega
    go_enter Try.func28, Try.ntmps28
    have hnew : At (w.alloc (.cells #[.int .u8 0, .int .u8 0, .int .u8 0, .int .u8 0] 42)) w.heap.size 42 [.int .u8 0, .int .u8 0, .int .u8 0, .int .u8 0] := At.new w _ _
    have hbn : Below w.heap.size w (w.alloc (.cells #[.int .u8 0, .int .u8 0, .int .u8 0, .int .u8 0] 42)) := (Below.refl _ w).alloc (Nat.le_refl _) _
    have hG1 := HG.out.below hbn
    have ci : (w.alloc (.cells #[.int .u8 0, .int .u8 0, .int .u8 0, .int .u8 0] 42)).cell? ⟨g, i, none⟩ = some (.pointer (some ⟨c i, 0, none⟩)) := hG1.g.cell i (pz_get (p := fun i => ptr (c i)) hi)
    have ch3 : (w.alloc (.cells #[.int .u8 0, .int .u8 0, .int .u8 0, .int .u8 0] 42)).cell? ⟨c i, 3, none⟩ = some (.int .u8 ((y.x i).co : Int)) := (hG1.x i hi).d.cell 3 rfl
    have hone0 : ∀ v ∈ ([.int .u8 0, .int .u8 0, .int .u8 0, .int .u8 0] : List Value), v.oneCell' = true := by intro v hv; simp only [List.mem_cons, List.not_mem_nil, or_false] at hv; rcases hv with rfl | rfl | rfl | rfl <;> rfl
    go_wp2_with (with_reducible refine wpList_store_row rfl 42 (.tmp 4) (.tmp 26) rfl rfl w.heap.size (by kernel_rfl) [.int .u8 0, .int .u8 0, .int .u8 0, .int .u8 0] (by kernel_rfl) 42 [.int .u8 0, .int .u8 0, .int .u8 0, .int .u8 0] hnew (by kernel_rfl) (by kernel_rfl) hone0 ?_)
    intro w5 hA5 hU5
    have hB5 := step_upd hbn hU5 (Nat.le_refl _)
    go_wp2
    (try simp only [Exit.inBlock, Exit.then])
    rw [← HNO.out (fun h => hon h.1)] at hA5
    refine bodyPost_ret (results_cell_at rfl _ _ w.heap.size 42 _ hA5 _ (by kernel_rfl) Try.underlying42 rfl (by kernel_rfl)) rfl ?_
    exact ⟨rfl, hB5⟩
end Go.Proofs.Ytgkbpdcedighcac
