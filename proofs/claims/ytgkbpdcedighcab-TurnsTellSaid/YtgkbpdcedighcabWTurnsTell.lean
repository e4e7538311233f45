/-
  The walk of the law TurnsTell.
-/
import Derived.Test.YtgkbpdcedighcabTurnL
import Derived.Test.YtgkbpdcedighcabBinQ
import Derived.Test.YtgkbpdcedighcabOpenS
namespace Go.Proofs.Ytgkbpdcedighcab
open Go.RowKit Go.Sort

theorem SlR.intsAt {w : World} {a : Option Addr} {n cap : Nat} {F : Nat → List Value} (h : SlR w a n cap 1 (IsInt .i64) F) : ∃ z : Nat → Int, IntsAt w a n z ∧ ∀ i, i < n → -9223372036854775808 ≤ z i ∧ z i ≤ 9223372036854775807 := by
  obtain ⟨z, hz⟩ := h.ints
  exact ⟨z, fun i hi => (hz i hi).2, fun i hi => wf_bounds_i64 (hz i hi).1⟩

set_option maxRecDepth 100000 in
set_option maxHeartbeats 8000000 in
theorem TurnsTell_walk (w : World) (a : Option Addr) (n cap : Nat) (F : Nat → List Value) (s : SlR w a n cap 1 (IsInt .i64) F) :
    Calls Try.prog 14 #[.slice a n cap] w fun e w' => e = .returned (.bool true) ∧ Below w.heap.size w w' := by
  have hm := s.max
  have hle := s.le
  unfold maxLen at hm
  obtain ⟨z, hz, -⟩ := s.intsAt
  have HZ := Lib.hid hz
  clear s hz hm hle
  by_cases hlong : 5000 < n
  · have hd : decide (5000 < (n : Int)) = true := by rw [decide_eq_true_eq]; omega
    go_enter Try.func14, Try.ntmps14
    go_wp2_with fail
    refine (live17_any w).mono ?_
    rintro e w1 ⟨rfl, hB1⟩
    go_wp2
    go_ret
    exact ⟨rfl, hB1⟩
  · have hd : decide (5000 < (n : Int)) = false := by rw [decide_eq_false_iff_not]; omega
    have hn : n ≤ 4611686018427387904 := by omega
    go_enter Try.func14, Try.ntmps14
    go_wp2_with fail
    refine (live17_any w).mono ?_
    rintro e w1 ⟨rfl, hB1⟩
    go_wp2_with fail
    refine (Fold_any a n cap z w1 (HZ.out.step hB1) hn).mono ?_
    rintro e w2 ⟨rfl, hb2⟩
    rw [show rowI 4 (foldR z n) = [.int .i64 (foldR z n 0), .int .i64 (foldR z n 1), .int .i64 (foldR z n 2), .int .i64 (foldR z n 3)] from rfl]
    have hB2 := step_below hB1 hb2
    clear hb2 hB1
    go_wp2_with fail
    refine allocs1 (F := fun w => Calls _ _ _ w _) ?_
    intro w3 hA3 hb3 _
    have hB3 := step_below hB2 hb3
    refine (Of_any a n cap z w3 (HZ.out.step hB3) hn).mono ?_
    rintro e w4 ⟨rfl, hb4⟩
    have hB4 := step_below hB3 hb4
    replace hA3 := hA3.below hb4 hA3.lt
    have hall := binR_all z n
    rw [pI_row]
    clear hb3 hb4 hB2 hB3
    go_wp2_with fail
    refine allocs1 (F := fun w => Calls _ _ _ w _) ?_
    intro w5 hA5 hb5 _
    have hB5 := step_below hB4 hb5
    replace hA3 := hA3.below hb5 hA3.lt
    refine (Strength_any a n cap z w5 (HZ.out.step hB5) hn).mono ?_
    rintro e w6 ⟨rfl, hb6⟩
    have hB6 := step_below hB5 hb6
    replace hA3 := hA3.below hb6 hA3.lt
    replace hA5 := hA5.below hb6 hA5.lt
    rw [show rowI 4 (strI (binR z n)) = [.int .i64 (strI (binR z n) 0), .int .i64 (strI (binR z n) 1), .int .i64 (strI (binR z n) 2), .int .i64 (strI (binR z n) 3)] from rfl]
    clear hb5 hb6 hB4 hB5
    go_wp2_with fail
    refine allocs1 (F := fun w => Calls _ _ _ w _) ?_
    intro w7 hA7 hb7 _
    have hB7 := step_below hB6 hb7
    replace hA3 := hA3.below hb7 hA3.lt
    replace hA5 := hA5.below hb7 hA5.lt
    refine (RFold_any a n cap z w7 (HZ.out.step hB7) hn).mono ?_
    rintro e w8 ⟨rfl, hb8⟩
    have hB8 := step_below hB7 hb8
    replace hA3 := hA3.below hb8 hA3.lt
    replace hA5 := hA5.below hb8 hA5.lt
    replace hA7 := hA7.below hb8 hA7.lt
    rw [show rowI 4 (foldR z n) = [.int .i64 (foldR z n 0), .int .i64 (foldR z n 1), .int .i64 (foldR z n 2), .int .i64 (foldR z n 3)] from rfl]
    clear hb7 hb8 hB6 hB7
    have q1 : ∀ w, (binOp .neq 24 (.agg #[.int .i64 (foldR z n 0), .int .i64 (foldR z n 1), .int .i64 (foldR z n 2), .int .i64 (foldR z n 3)]) (.agg #[.int .i64 (foldR z n 0), .int .i64 (foldR z n 1), .int .i64 (foldR z n 2), .int .i64 (foldR z n 3)])).run Try.prog w = .ok (.bool false) w := fun w => by
      have h := (eql4 (foldR z n) (foldR z n)).2 w
      rw [eqB_same (fun _ _ => rfl)] at h
      exact h
    have HA3 : Hid (At w8 w2.heap.size 24 [.int .i64 (foldR z n 0), .int .i64 (foldR z n 1), .int .i64 (foldR z n 2), .int .i64 (foldR z n 3)]) := Lib.hid hA3
    have HA5 : Hid (At w8 w4.heap.size 23 (rowI 8 (pI (binR z n)))) := Lib.hid hA5
    have HA7 : Hid (At w8 w6.heap.size 24 (rowI 4 (strI (binR z n)))) := Lib.hid hA7
    have HB8 := Lib.hid hB8
    clear hA3 hA5 hA7 hB8
    have r9 : At (w8.alloc (.cells #[.int .i64 (foldR z n 0), .int .i64 (foldR z n 1), .int .i64 (foldR z n 2), .int .i64 (foldR z n 3)] 24)) w8.heap.size 24 [.int .i64 (foldR z n 0), .int .i64 (foldR z n 1), .int .i64 (foldR z n 2), .int .i64 (foldR z n 3)] := At.new _ _ _
    by_cases h0 : wrongZ z n = 0
    · have HR : Hid (rowI 8 (binF (foldR z n)) = rowI 8 (pI (binR z n))) := Lib.hid (by
        unfold rowI
        refine rowF_ext fun i hi => ?_
        have e1 : foldR z n = foldZ z n := by funext j; rw [foldR, if_pos h0]
        have e2 : binR z n = fun k => binZ z k n := by funext k; rw [binR, if_pos h0]
        rw [e1, e2, binF_fold z n i hi])
      rw [h0]
      clear h0
      go_wp2_with (first
        | (with_reducible refine wpList_load_at_w (by kernel_rfl) 24 (.tmp 3) rfl w2.heap.size (by kernel_rfl) 24 _ (HA3.out.alloc _) _ Try.underlying24 rfl (by kernel_rfl) ?_)
        | (with_reducible refine wpList_load_at_w (by kernel_rfl) 24 (.tmp 9) rfl w8.heap.size (by kernel_rfl) 24 _ r9 _ Try.underlying24 rfl (by kernel_rfl) ?_))
      have hfb : ∀ i, i < 4 → -2305843009213693952 ≤ foldR z n i ∧ foldR z n i ≤ 2305843009213693951 := fun i _ => by
        unfold foldR
        split
        · rename_i h0
          obtain ⟨h1, h2⟩ := wrongZ_zero h0
          have := foldZ_le z 262144 i (by omega) n h2
          omega
        · omega
      refine allocs1 (F := fun w => Calls _ _ _ w _) ?_
      intro w9 _ hb9 _
      have hB9 := step_below HB8.out hb9
      have hA5 := HA5.out.below hb9 HA5.out.lt
      have hA7 := HA7.out.below hb9 HA7.out.lt
      refine (Bins_any (foldR z n) w9 hfb).mono ?_
      rintro e w10 ⟨rfl, hb10⟩
      have hB10 := step_below hB9 hb10
      replace hA5 := hA5.below hb10 hA5.lt
      replace hA7 := hA7.below hb10 hA7.lt
      rw [HR.out, pI_row]
      clear hb9 hb10 hB9 hfb q1 r9 HA3 HA5 HA7 HB8 HR
      go_wp2_with fail
      refine allocs1 ?_
      intro w11 hA11 hb11 _
      have hB11 := step_below hB10 hb11
      replace hA5 := hA5.below hb11 hA5.lt
      replace hA7 := hA7.below hb11 hA7.lt
      clear hb11 hB10
      have q8 : ∀ w, (binOp .eql 23 (.agg #[.int .i64 (binR z n 0).1, .int .i64 (binR z n 0).2, .int .i64 (binR z n 1).1, .int .i64 (binR z n 1).2, .int .i64 (binR z n 2).1, .int .i64 (binR z n 2).2, .int .i64 (binR z n 3).1, .int .i64 (binR z n 3).2]) (.agg #[.int .i64 (binR z n 0).1, .int .i64 (binR z n 0).2, .int .i64 (binR z n 1).1, .int .i64 (binR z n 1).2, .int .i64 (binR z n 2).1, .int .i64 (binR z n 2).2, .int .i64 (binR z n 3).1, .int .i64 (binR z n 3).2])).run Try.prog w = .ok (.bool true) w := fun w => by
        have h := (eql8 (pI (binR z n)) (pI (binR z n))).1 w
        rw [eqB_same (fun _ _ => rfl)] at h
        exact h
      have c0 : w11.cell? ⟨w6.heap.size, 0, none⟩ = some (.int .i64 ((binR z n 0).1 * (binR z n 0).1 + (binR z n 0).2 * (binR z n 0).2)) := hA7.cell 0 rfl
      have x0 := hA11.cell 0 rfl
      have y0 := hA11.cell 1 rfl
      have qx0 := sq_le _ (hall 0).1
      have qy0 := sq_le _ (hall 0).2
      have c1 : w11.cell? ⟨w6.heap.size, 1, none⟩ = some (.int .i64 ((binR z n 1).1 * (binR z n 1).1 + (binR z n 1).2 * (binR z n 1).2)) := hA7.cell 1 rfl
      have x1 := hA11.cell 2 rfl
      have y1 := hA11.cell 3 rfl
      have qx1 := sq_le _ (hall 1).1
      have qy1 := sq_le _ (hall 1).2
      have c2 : w11.cell? ⟨w6.heap.size, 2, none⟩ = some (.int .i64 ((binR z n 2).1 * (binR z n 2).1 + (binR z n 2).2 * (binR z n 2).2)) := hA7.cell 2 rfl
      have x2 := hA11.cell 4 rfl
      have y2 := hA11.cell 5 rfl
      have qx2 := sq_le _ (hall 2).1
      have qy2 := sq_le _ (hall 2).2
      have c3 : w11.cell? ⟨w6.heap.size, 3, none⟩ = some (.int .i64 ((binR z n 3).1 * (binR z n 3).1 + (binR z n 3).2 * (binR z n 3).2)) := hA7.cell 3 rfl
      have x3 := hA11.cell 6 rfl
      have y3 := hA11.cell 7 rfl
      have qx3 := sq_le _ (hall 3).1
      have qy3 := sq_le _ (hall 3).2
      rw [pI_row] at hA5
      clear hall
      generalize (binR z n 0).1 = u0 at *
      generalize (binR z n 0).2 = v0 at *
      generalize (binR z n 1).1 = u1 at *
      generalize (binR z n 1).2 = v1 at *
      generalize (binR z n 2).1 = u2 at *
      generalize (binR z n 2).2 = v2 at *
      generalize (binR z n 3).1 = u3 at *
      generalize (binR z n 3).2 = v3 at *
      have HA5 := Lib.hid hA5
      have HA11 := Lib.hid hA11
      have HB11 := Lib.hid hB11
      clear hA5 hA7 hA11 hB11
      refine wp_loop_rounds 5 ?_
      rw [rounds_succ]
      go_wp2_with fail
      refine wp_region_quiet_lit (by kernel_rfl) (by kernel_rfl) ?_
      repeat (go_big_quiet_step ((fail)))
      refine wpQuiet_nil ?_
      intro _ hw'
      obtain ⟨nq, rfl⟩ := hw'
      go_wp2_with fail
      rw [rounds_succ]
      go_wp2_with fail
      refine wp_region_quiet_lit (by kernel_rfl) (by kernel_rfl) ?_
      repeat (go_big_quiet_step ((fail)))
      refine wpQuiet_nil ?_
      intro _ hw'
      obtain ⟨nq, rfl⟩ := hw'
      go_wp2_with fail
      rw [rounds_succ]
      go_wp2_with fail
      refine wp_region_quiet_lit (by kernel_rfl) (by kernel_rfl) ?_
      repeat (go_big_quiet_step ((fail)))
      refine wpQuiet_nil ?_
      intro _ hw'
      obtain ⟨nq, rfl⟩ := hw'
      go_wp2_with fail
      rw [rounds_succ]
      go_wp2_with fail
      refine wp_region_quiet_lit (by kernel_rfl) (by kernel_rfl) ?_
      repeat (go_big_quiet_step ((fail)))
      refine wpQuiet_nil ?_
      intro _ hw'
      obtain ⟨nq, rfl⟩ := hw'
      go_wp2_with fail
      rw [rounds_succ]
      go_wp2_with (first
        | (with_reducible refine wpList_load_at_w (by kernel_rfl) 23 (.tmp 5) rfl w4.heap.size (by kernel_rfl) 23 [.int .i64 u0, .int .i64 v0, .int .i64 u1, .int .i64 v1, .int .i64 u2, .int .i64 v2, .int .i64 u3, .int .i64 v3] (HA5.out.drewN _) _ Try.underlying23 rfl (by kernel_rfl) ?_)
        | (with_reducible refine wpList_load_at_w (by kernel_rfl) 23 (.tmp 11) rfl w10.heap.size (by kernel_rfl) 23 [.int .i64 u0, .int .i64 v0, .int .i64 u1, .int .i64 v1, .int .i64 u2, .int .i64 v2, .int .i64 u3, .int .i64 v3] (HA11.out.drewN _) _ Try.underlying23 rfl (by kernel_rfl) ?_))
      go_ret
      exact ⟨rfl, by have h := HB11.out; exact ⟨h.os, h.tape, h.output, h.size, h.block⟩⟩
    · have hz2 : ∀ k, binR z n k = (0, 0) := fun k => by rw [binR, if_neg h0]
      generalize hx : wrongZ z n = x at h0 ⊢
      clear hx
      have h1 : (x != 0) = true := by simpa using h0
      have e1 : (x != x) = false := by simp
      have q2 : ∀ w, (binOp .eql 23 (.agg (rowI 8 (pI (binR z n))).toArray) (.agg #[.int .i64 0, .int .i64 0, .int .i64 0, .int .i64 0, .int .i64 0, .int .i64 0, .int .i64 0, .int .i64 0])).run Try.prog w = .ok (.bool true) w := fun w => by
        have h := (eql8 (pI (binR z n)) (fun _ => 0)).1 w
        rw [eqB_same (fun i _ => by simp [pI, hz2])] at h
        exact h
      have q3 : ∀ w, (binOp .eql 24 (.agg (rowI 4 (strI (binR z n))).toArray) (.agg #[.int .i64 0, .int .i64 0, .int .i64 0, .int .i64 0])).run Try.prog w = .ok (.bool true) w := fun w => by
        have h := (eql4 (strI (binR z n)) (fun _ => 0)).1 w
        rw [eqB_same (fun i _ => by simp [strI, hz2])] at h
        exact h
      go_wp2_with (first
        | (with_reducible refine wpList_load_at_w (by kernel_rfl) 24 (.tmp 3) rfl w2.heap.size (by kernel_rfl) 24 _ (HA3.out.alloc _) _ Try.underlying24 rfl (by kernel_rfl) ?_)
        | (with_reducible refine wpList_load_at_w (by kernel_rfl) 24 (.tmp 9) rfl w8.heap.size (by kernel_rfl) 24 _ r9 _ Try.underlying24 rfl (by kernel_rfl) ?_)
        | (with_reducible refine wpList_load_at_w (by kernel_rfl) 23 (.tmp 5) rfl w4.heap.size (by kernel_rfl) 23 _ (HA5.out.alloc _) _ Try.underlying23 rfl (by kernel_rfl) ?_)
        | (with_reducible refine wpList_load_at_w (by kernel_rfl) 24 (.tmp 7) rfl w6.heap.size (by kernel_rfl) 24 _ (HA7.out.alloc _) _ Try.underlying24 rfl (by kernel_rfl) ?_))
      go_ret
      exact ⟨rfl, HB8.out.alloc HB8.out.size _⟩
end Go.Proofs.Ytgkbpdcedighcab
