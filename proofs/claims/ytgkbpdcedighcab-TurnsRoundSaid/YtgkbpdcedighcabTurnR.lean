/-
  The walk of the reference's Back.
-/
import Derived.Test.YtgkbpdcedighcabTurnL
namespace Go.Proofs.Ytgkbpdcedighcab
open Go.RowKit Go.Sort

/-- What the reference finds. -/
def rbF (p : Nat → Int) : Nat → Int
  | 0 => (p 0 + p 4 + 2 * p 2).tdiv 4
  | 1 => (p 0 - p 4 - 2 * p 3).tdiv 4
  | 2 => (p 0 + p 4 - 2 * p 2).tdiv 4
  | _ => (p 0 - p 4 + 2 * p 3).tdiv 4

def rbE (p : Nat → Int) : Int := if farAll p 4 then 1 else if eqB (binF (rbF p)) p 8 then 0 else 3
def rbV (p : Nat → Int) (k : Nat) : Int := if rbE p = 0 then rbF p k else 0

theorem tdiv4 (x q : Int) (h : x = 4 * q) : x.tdiv 4 = q := by subst h; exact Int.mul_tdiv_cancel_left q (by decide)
theorem tmod4 (x : Int) (h : x.tmod 4 = 0) : ∃ q, x = 4 * q := ⟨x.tdiv 4, by have := Int.mul_tdiv_add_tmod x 4; omega⟩

theorem rb_ok (p : Nat → Int) : eqB (binF (rbF p)) p 8 = (okC p 0 && okC p 1 && okC p 2 && okC p 3) ∧ (eqB (binF (rbF p)) p 8 = true → ∀ k, k < 4 → rbF p k = (fourC p k).1.tdiv 4) := by
  have key : (okC p 0 && okC p 1 && okC p 2 && okC p 3) = true → (∀ i, i < 8 → binF (rbF p) i = p i) ∧ ∀ k, k < 4 → rbF p k = (fourC p k).1.tdiv 4 := by
    intro h
    simp only [okC, fourC, Bool.and_eq_true, decide_eq_true_eq] at h
    obtain ⟨⟨⟨⟨a0, b0⟩, a1, b1⟩, a2, b2⟩, a3, b3⟩ := h
    obtain ⟨q0, h0⟩ := tmod4 _ a0
    obtain ⟨q1, h1⟩ := tmod4 _ a1
    obtain ⟨q2, h2⟩ := tmod4 _ a2
    obtain ⟨q3, h3⟩ := tmod4 _ a3
    have e1 : p 1 = 0 := by omega
    have e5 : p 5 = 0 := by omega
    have e6 : p 6 = p 2 := by omega
    have e7 : p 7 = - p 3 := by omega
    have r0 : rbF p 0 = q0 := tdiv4 _ _ (by omega)
    have r1 : rbF p 1 = q1 := tdiv4 _ _ (by omega)
    have r2 : rbF p 2 = q2 := tdiv4 _ _ (by omega)
    have r3 : rbF p 3 = q3 := tdiv4 _ _ (by omega)
    constructor
    · intro i hi
      match i, hi with
      | 0, _ => simp only [binF, r0, r1, r2, r3]; omega
      | 1, _ => simp only [binF]; omega
      | 2, _ => simp only [binF, r0, r2]; omega
      | 3, _ => simp only [binF, r1, r3]; omega
      | 4, _ => simp only [binF, r0, r1, r2, r3]; omega
      | 5, _ => simp only [binF]; omega
      | 6, _ => simp only [binF, r0, r2]; omega
      | 7, _ => simp only [binF, r1, r3]; omega
    · intro k hk
      match k, hk with
      | 0, _ => rw [r0]; exact (tdiv4 _ _ h0).symm
      | 1, _ => rw [r1]; exact (tdiv4 _ _ h1).symm
      | 2, _ => rw [r2]; exact (tdiv4 _ _ h2).symm
      | 3, _ => rw [r3]; exact (tdiv4 _ _ h3).symm
  have back : (∀ i, i < 8 → binF (rbF p) i = p i) → (okC p 0 && okC p 1 && okC p 2 && okC p 3) = true := by
    intro h
    have g0 := h 0 (by omega)
    have g1 := h 1 (by omega)
    have g2 := h 2 (by omega)
    have g3 := h 3 (by omega)
    have g4 := h 4 (by omega)
    have g5 := h 5 (by omega)
    have g6 := h 6 (by omega)
    have g7 := h 7 (by omega)
    simp only [binF] at g0 g1 g2 g3 g4 g5 g6 g7
    generalize rbF p 0 = x0 at *
    generalize rbF p 1 = x1 at *
    generalize rbF p 2 = x2 at *
    generalize rbF p 3 = x3 at *
    have m : ∀ x q : Int, x = 4 * q → x.tmod 4 = 0 := fun x q hx => by subst hx; exact Int.mul_tmod_right 4 q
    simp only [okC, fourC, Bool.and_eq_true, decide_eq_true_eq]
    exact ⟨⟨⟨⟨m _ x0 (by omega), by omega⟩, m _ x1 (by omega), by omega⟩, m _ x2 (by omega), by omega⟩, m _ x3 (by omega), by omega⟩
  constructor
  · rw [Bool.eq_iff_iff, eqB_iff]
    exact ⟨back, fun h => (key h).1⟩
  · intro h
    exact (key (back ((eqB_iff _ _ _).1 h))).2

theorem rbE_same (p : Nat → Int) : rbE p = backE p := by rw [rbE, backE_c, backEC, (rb_ok p).1]
theorem rbV_same (p : Nat → Int) (k : Nat) (hk : k < 4) : rbV p k = backV p k := by
  rw [rbV, backV_c p k hk, backVC, rbE_same, backE_c]
  by_cases h : backEC p = 0
  · rw [if_pos h, if_pos h]
    refine (rb_ok p).2 ?_ k hk
    rw [(rb_ok p).1]
    unfold backEC at h
    split at h
    · cases h
    · split at h
      · assumption
      · cases h
  · rw [if_neg h, if_neg h]

set_option maxRecDepth 100000 in
set_option maxHeartbeats 4000000 in
theorem RBack_any (p : Nat → Int) (w : World) : Calls Try.prog 17 #[.agg (rowI 8 p).toArray] w fun e w' => e = .returned (.tuple #[.agg (rowI 4 (rbV p)).toArray, .int .i64 (rbE p)]) ∧ Below w.heap.size w w' := by
  go_enter Try.func17, Try.ntmps17
  go_wp2_with fail
  refine allocs2 ?_
  intro w1 hA0 hA1 hB1 hs1
  replace hA0 : At w1 w.heap.size 23 (rowI 8 p) := hA0
  replace hA1 : At w1 (w.heap.size + 1) 24 (rowI 4 fun _ => 0) := hA1
  have HA0 := Lib.hid hA0
  have HA1 := Lib.hid hA1
  have HB1 := Lib.hid hB1
  clear hA0 hA1 hB1
  go_loop [4] (fun i => ∃ k : Nat, k ≤ 4 ∧ i = .int .i64 k ∧ Hid (farAll p k = false)) (fun i => 4 - (intOf i).toNat)
  case atStart => exact ⟨0, by omega, rfl, Lib.hid rfl⟩
  case round =>
    obtain ⟨k, hk, rfl, HF⟩ := hrel
    by_cases hlt : k < 4
    · go_wp2_with fail
      go_loop [5] (fun i => ∃ q : Nat, q ≤ 2 ∧ i = .int .i64 q ∧ Hid (∀ j, j < q → farB (p (2 * k + j)) = false)) (fun i => 2 - (intOf i).toNat)
      case atStart => exact ⟨0, by omega, rfl, Lib.hid (fun j hj => by omega)⟩
      case round =>
        obtain ⟨q, hq, rfl, HQ⟩ := hrel
        by_cases hlt2 : q < 2
        · have hc := HA0.out.cell (k * 2 + q) (rowF_get (f := fun i => Value.int .i64 (p i)) (show k * 2 + q < 8 by omega))
          cases hbad : farB (p (k * 2 + q))
          · have HQ1 : Hid (∀ j, j < q + 1 → farB (p (2 * k + j)) = false) := Lib.hid (fun j hj => by
              by_cases hjq : j = q
              · subst hjq; rw [Nat.mul_comm 2 k]; exact hbad
              · exact HQ.out j (by omega))
            generalize p (k * 2 + q) = x at *
            simp only [farB, Bool.or_eq_false_iff] at hbad
            obtain ⟨b1, b2⟩ := hbad
            go_wp2
            go_round
            case rel => exact ⟨q + 1, by omega, by go_num, HQ1⟩
            case measure => simp [intOf]; omega
          · have HT : Hid (farAll p 4 = true) := Lib.hid (farAll_mono p (k := k + 1) (n := 4) (by
              rw [farAll]
              have hqq : q = 0 ∨ q = 1 := by omega
              rcases hqq with rfl | rfl
              · rw [Nat.mul_comm 2 k]; simp only [Nat.add_zero] at hbad; simp [hbad]
              · rw [Nat.mul_comm 2 k]; simp [hbad]) (by omega))
            generalize p (k * 2 + q) = x at *
            cases b1 : decide (x < -1099511627776)
            · have b2 : decide (1099511627776 < x) = true := by simpa [farB, b1] using hbad
              have HE : Hid (rbE p = 1) := Lib.hid (by rw [rbE, if_pos HT.out])
              have HV : Hid (rowI 4 (rbV p) = rowI 4 fun _ => 0) := Lib.hid (by unfold rowI; congr 1; funext i; rw [rbV, HE.out]; rfl)
              clear hbad
              go_wp2_with (with_reducible refine wpList_store_row rfl 24 (.tmp 2) (.tmp 33) rfl rfl (w.heap.size + 1) (by kernel_rfl) (rowI 4 fun _ => 0) (by kernel_rfl) 24 (rowI 4 fun _ => 0) HA1.out (by kernel_rfl) (by kernel_rfl) (rowI_one _ _) ?_)
              intro w5 hA5 hU5
              have h5 : Below w.heap.size w w5 := step_upd HB1.out hU5 (by omega)
              clear hU5
              go_wp2
              (try simp only [Exit.inBlock, Exit.then])
              refine bodyPost_ret (results_cell_at2 rfl _ _ (w.heap.size + 1) 24 _ hA5 _ (by kernel_rfl) Try.underlying24 rfl (by kernel_rfl)) rfl ?_
              exact ⟨by rw [HV.out, HE.out]; rfl, h5⟩
            · have HE : Hid (rbE p = 1) := Lib.hid (by rw [rbE, if_pos HT.out])
              have HV : Hid (rowI 4 (rbV p) = rowI 4 fun _ => 0) := Lib.hid (by unfold rowI; congr 1; funext i; rw [rbV, HE.out]; rfl)
              clear hbad
              go_wp2_with (with_reducible refine wpList_store_row rfl 24 (.tmp 2) (.tmp 33) rfl rfl (w.heap.size + 1) (by kernel_rfl) (rowI 4 fun _ => 0) (by kernel_rfl) 24 (rowI 4 fun _ => 0) HA1.out (by kernel_rfl) (by kernel_rfl) (rowI_one _ _) ?_)
              intro w5 hA5 hU5
              have h5 : Below w.heap.size w w5 := step_upd HB1.out hU5 (by omega)
              clear hU5
              go_wp2
              (try simp only [Exit.inBlock, Exit.then])
              refine bodyPost_ret (results_cell_at2 rfl _ _ (w.heap.size + 1) 24 _ hA5 _ (by kernel_rfl) Try.underlying24 rfl (by kernel_rfl)) rfl ?_
              exact ⟨by rw [HV.out, HE.out]; rfl, h5⟩
        · obtain rfl : q = 2 := by omega
          have HF1 : Hid (farAll p (k + 1) = false) := Lib.hid (by
            rw [farAll, HF.out, HQ.out 1 (by omega)]
            have := HQ.out 0 (by omega)
            rw [Nat.add_zero] at this
            rw [this]; rfl)
          go_wp2
          go_round
          case rel => exact ⟨k + 1, by omega, by go_num, HF1⟩
          case measure => simp [intOf]; omega
    · obtain rfl : k = 4 := by omega
      have hno := farAll_no p HF.out
      have c0 := HA0.out.cell 0 rfl
      have c2 := HA0.out.cell 2 rfl
      have c3 := HA0.out.cell 3 rfl
      have c4 := HA0.out.cell 4 rfl
      have n0 : -1099511627776 ≤ p 0 ∧ p 0 ≤ 1099511627776 := (hno 0 (by omega)).1
      have n2 : -1099511627776 ≤ p 2 ∧ p 2 ≤ 1099511627776 := (hno 1 (by omega)).1
      have n3 : -1099511627776 ≤ p 3 ∧ p 3 ≤ 1099511627776 := (hno 1 (by omega)).2
      have n4 : -1099511627776 ≤ p 4 ∧ p 4 ≤ 1099511627776 := (hno 2 (by omega)).1
      have HFB : Hid (rbE p = if eqB (binF (rbF p)) p 8 then 0 else 3) := Lib.hid (by rw [rbE, HF.out]; rfl)
      have d4 : ∀ x : Int, -8796093022208 ≤ x ∧ x ≤ 8796093022208 → -2305843009213693952 ≤ x.tdiv 4 ∧ x.tdiv 4 ≤ 2305843009213693951 := fun x hx => by
        have h1 := Int.natAbs_tdiv x 4
        replace h1 : (x.tdiv 4).natAbs = x.natAbs / 4 := h1
        omega
      have t0 : (p 0 + p 4 + 2 * p 2).tdiv 4 = rbF p 0 := rfl
      have t1 : (p 0 - p 4 - 2 * p 3).tdiv 4 = rbF p 1 := rfl
      have t2 : (p 0 + p 4 - 2 * p 2).tdiv 4 = rbF p 2 := rfl
      have t3 : (p 0 - p 4 + 2 * p 3).tdiv 4 = rbF p 3 := rfl
      have b0 : -2305843009213693952 ≤ rbF p 0 ∧ rbF p 0 ≤ 2305843009213693951 := t0 ▸ d4 _ (by omega)
      have b1 : -2305843009213693952 ≤ rbF p 1 ∧ rbF p 1 ≤ 2305843009213693951 := t1 ▸ d4 _ (by omega)
      have b2 : -2305843009213693952 ≤ rbF p 2 ∧ rbF p 2 ≤ 2305843009213693951 := t2 ▸ d4 _ (by omega)
      have b3 : -2305843009213693952 ≤ rbF p 3 ∧ rbF p 3 ≤ 2305843009213693951 := t3 ▸ d4 _ (by omega)
      have HB4 : Hid (∀ i, i < 4 → -2305843009213693952 ≤ rbF p i ∧ rbF p i ≤ 2305843009213693951) := Lib.hid (fun i hi => by
        match i, hi with
        | 0, _ => exact b0
        | 1, _ => exact b1
        | 2, _ => exact b2
        | 3, _ => exact b3)
      clear hno d4
      go_wp2_with fail
      refine wp_region_quiet_lit (by kernel_rfl) (by kernel_rfl) ?_
      repeat (go_big_quiet_step ((fail)))
      refine wpQuiet_nil ?_
      intro _ hw'
      obtain ⟨nq, rfl⟩ := hw'
      go_wp2_with fail
      refine allocs1 ?_
      intro w2 hA2 hb2 _
      replace hA2 : At w2 (w.heap.size + 1 + 1) 24 (rowI 4 (rbF p)) := hs1 ▸ hA2
      have hb2' : Below w1.heap.size w1 w2 := ⟨hb2.os, hb2.tape, hb2.output, hb2.size, hb2.block⟩
      have HA2 := Lib.hid hA2
      have HA3 := Lib.hid (HA0.out.below hb2' HA0.out.lt)
      have HA4 := Lib.hid (HA1.out.below hb2' HA1.out.lt)
      have HB2 := Lib.hid (step_below HB1.out hb2')
      have hq : ∀ w, (binOp .neq 23 (.agg (rowI 8 (binF (rbF p))).toArray) (.agg (rowI 8 p).toArray)).run Try.prog w = .ok (.bool (!eqB (binF (rbF p)) p 8)) w := fun w => (eql8 (binF (rbF p)) p).2 w
      clear hA2 hb2 hb2' t0 t1 t2 t3 b0 b1 b2 b3 n0 n2 n3 n4 HA0 HA1 HB1 c0 c2 c3 c4
      refine wp_region_quiet_below (by kernel_rfl) (by kernel_rfl) ?_
      refine BigFrame.wpQuiet_want rfl fun K hK => ?_
      refine quiet_load_row 24 _ rfl (w.heap.size + 1 + 1) rfl 24 (rowI 4 (rbF p)) _ (fun w' hw' => HA2.out.below (below_of_regrown hw') HA2.out.lt) Try.underlying24 rfl (by kernel_rfl) (hK _ ?_)
      clear hK K
      (conv => arg 6; whnf)
      simp only [List.setIfInBounds_toArray, List.set_cons_succ, List.set_cons_zero]
      go_big_quiet_step ((go_at_call 21; exact Calls.regrown_of (Bins_any (rbF p) _ HB4.out)))
      refine BigFrame.wpQuiet_want rfl fun K hK => ?_
      refine quiet_load_row 23 _ rfl w.heap.size rfl 23 (rowI 8 p) _ (fun w' hw' => HA3.out.below (below_of_regrown hw') HA3.out.lt) Try.underlying23 rfl (by kernel_rfl) (hK _ ?_)
      clear hK K
      (conv => arg 6; whnf)
      simp only [List.setIfInBounds_toArray, List.set_cons_succ, List.set_cons_zero]
      repeat (go_big_quiet_step (fail))
      refine wpQuiet_nil ?_
      intro w5 hw'
      have hb5 := below_of_regrown hw'
      clear hw'
      have hA2 := HA2.out.below hb5 HA2.out.lt
      have hA4 := HA4.out.below hb5 HA4.out.lt
      have hB5 := step_below HB2.out hb5
      obtain ⟨c, hc⟩ : ∃ c, c = eqB (binF (rbF p)) p 8 := ⟨_, rfl⟩
      rw [← hc]
      have HC := Lib.hid hc
      clear hc hq hb5
      cases c
      · have HE : Hid (rbE p = 3) := Lib.hid (by rw [HFB.out, ← HC.out]; rfl)
        have HV : Hid (rowI 4 (rbV p) = rowI 4 fun _ => 0) := Lib.hid (by unfold rowI; congr 1; funext i; rw [rbV, HE.out]; rfl)
        go_wp2_with (with_reducible refine wpList_store_row rfl 24 (.tmp 2) (.tmp 79) rfl rfl (w.heap.size + 1) (by kernel_rfl) (rowI 4 fun _ => 0) (by kernel_rfl) 24 (rowI 4 fun _ => 0) hA4 (by kernel_rfl) (by kernel_rfl) (rowI_one _ _) ?_)
        intro w6 hA5 hU5
        have h5 : Below w.heap.size w w6 := step_upd hB5 hU5 (by omega)
        clear hU5
        go_wp2
        (try simp only [Exit.inBlock, Exit.then])
        refine bodyPost_ret (results_cell_at2 rfl _ _ (w.heap.size + 1) 24 _ hA5 _ (by kernel_rfl) Try.underlying24 rfl (by kernel_rfl)) rfl ?_
        exact ⟨by rw [HV.out, HE.out]; rfl, h5⟩
      · have HE : Hid (rbE p = 0) := Lib.hid (by rw [HFB.out, ← HC.out]; rfl)
        have HV : Hid (rowI 4 (rbV p) = rowI 4 (rbF p)) := Lib.hid (by unfold rowI; congr 1; funext i; rw [rbV, HE.out]; rfl)
        go_wp2_with (first
          | (with_reducible refine wpList_load_at rfl 24 (.tmp 10) rfl (w.heap.size + 1 + 1) (by kernel_rfl) 24 (rowI 4 (rbF p)) hA2 _ Try.underlying24 rfl (by kernel_rfl) ?_)
          | (with_reducible refine wpList_store_row rfl 24 (.tmp 2) (.tmp 80) rfl rfl (w.heap.size + 1) (by kernel_rfl) (rowI 4 (rbF p)) (by kernel_rfl) 24 (rowI 4 fun _ => 0) hA4 (by kernel_rfl) (by kernel_rfl) (rowI_one _ _) ?_))
        intro w6 hA5 hU5
        have h5 : Below w.heap.size w w6 := step_upd hB5 hU5 (by omega)
        clear hU5
        go_wp2
        (try simp only [Exit.inBlock, Exit.then])
        refine bodyPost_ret (results_cell_at2 rfl _ _ (w.heap.size + 1) 24 _ hA5 _ (by kernel_rfl) Try.underlying24 rfl (by kernel_rfl)) rfl ?_
        exact ⟨by rw [HV.out, HE.out]; rfl, h5⟩

theorem RBack_same (p : Nat → Int) (w : World) : Calls Try.prog 17 #[.agg (rowI 8 p).toArray] w fun e w' => e = .returned (.tuple #[.agg (rowI 4 (backV p)).toArray, .int .i64 (backE p)]) ∧ Below w.heap.size w w' := by
  rw [← rbE_same, show rowI 4 (backV p) = rowI 4 (rbV p) from rowF_ext fun i hi => by rw [rbV_same p i hi]]
  exact RBack_any p w
end Go.Proofs.Ytgkbpdcedighcab
