/-
  The walk of turns.Back.
-/
import Derived.Test.YtgkbpdcedighcabTurnG
import Derived.Test.YtgkbpdcedighcabTurnWR
import Derived.Test.YtgkbpdcedighcabTurn4
namespace Go.Proofs.Ytgkbpdcedighcab
open Go.RowKit Go.Sort

def farB (x : Int) : Bool := decide (x < -1099511627776) || decide (1099511627776 < x)
def pairX (p : Nat → Int) (k : Nat) : Int × Int := (p (2 * k), p (2 * k + 1))
def farAll (p : Nat → Int) : Nat → Bool
  | 0 => false
  | k + 1 => farAll p k || (farB (p (2 * k)) || farB (p (2 * k + 1)))
theorem farAll_mono (p : Nat → Int) {k n : Nat} (h : farAll p k = true) (hk : k ≤ n) : farAll p n = true := by
  induction n with
  | zero => rw [show k = 0 by omega] at h; exact h
  | succ n ih =>
    by_cases hkn : k = n + 1
    · subst hkn; exact h
    · simp [farAll, ih (by omega)]
theorem farAll_no (p : Nat → Int) {n : Nat} (h : farAll p n = false) : ∀ k, k < n → (-1099511627776 ≤ p (2 * k) ∧ p (2 * k) ≤ 1099511627776) ∧ (-1099511627776 ≤ p (2 * k + 1) ∧ p (2 * k + 1) ≤ 1099511627776) := by
  induction n with
  | zero => intro k hk; omega
  | succ n ih =>
    simp only [farAll, farB, Bool.or_eq_false_iff, decide_eq_false_iff_not] at h
    intro k hk
    by_cases hkn : k = n
    · subst hkn; omega
    · exact ih h.1 k (by omega)
def okF (X : Nat → Int × Int) (n : Nat) : Bool := decide ((fourS X n 4).1.tmod 4 = 0) && decide ((fourS X n 4).2 = 0)
def okAll (X : Nat → Int × Int) : Nat → Bool
  | 0 => true
  | k + 1 => okAll X k && okF X k
theorem okAll_not (X : Nat → Int × Int) {k n : Nat} (h : okAll X k = false) (hk : k ≤ n) : okAll X n = false := by
  induction n with
  | zero => rw [show k = 0 by omega] at h; exact h
  | succ n ih =>
    by_cases hkn : k = n + 1
    · subst hkn; exact h
    · simp [okAll, ih (by omega)]
def backE (p : Nat → Int) : Int := if farAll p 4 then 1 else if okAll (pairX p) 4 then 0 else 3
def backV (p : Nat → Int) (k : Nat) : Int := if backE p = 0 then (fourS (pairX p) k 4).1.tdiv 4 else 0

theorem pair_extract (p : Nat → Int) (k : Nat) (hk : k < 4) : (rowI 8 p).toArray.extract (k * 2) (k * 2 + 2) = #[.int .i64 (p (2 * k)), .int .i64 (p (2 * k + 1))] := by
  match k, hk with
  | 0, _ => rfl
  | 1, _ => rfl
  | 2, _ => rfl
  | 3, _ => rfl

set_option maxRecDepth 100000 in
set_option maxHeartbeats 4000000 in
theorem Back_turns (p : Nat → Int) (w : World) : Calls Try.prog 16 #[.agg (rowI 8 p).toArray] w fun e w' => e = .returned (.tuple #[.agg (rowI 4 (backV p)).toArray, .int .i64 (backE p)]) ∧ Below w.heap.size w w' := by
  go_enter Try.func16, Try.ntmps16
  go_wp2_with (with_reducible refine wpList_load_at rfl 23 (.tmp 1) rfl w.heap.size (by kernel_rfl) 23 (rowI 8 p) ((((At.new w (rowI 8 p).toArray 23).alloc _).alloc _).of_eq (by simp)) _ Try.underlying23 rfl (by kernel_rfl) ?_)
  refine allocs3 ?_
  intro w1 hA0 hA1 hA2 hB1 _
  replace hA1 : At w1 (w.heap.size + 1) 24 (rowI 4 fun _ => 0) := hA1
  have HA1 := Lib.hid hA1
  have HX : Hid (BinAt w1 (w.heap.size + 1 + 1) (partF (pairX p) (fun _ => (0, 0)) 0)) := Lib.hid ⟨fun _ => .complex .f64 0 0, hA2, fun j _ => ⟨_, _, rfl, is_zero, is_zero⟩⟩
  have HB1 := Lib.hid hB1
  clear hA0 hA1 hA2 hB1
  go_loopw [13] (fun i wr => ∃ k : Nat, k ≤ 4 ∧ i = .int .i64 k ∧ Hid (farAll p k = false) ∧ Hid (At wr (w.heap.size + 1) 24 (rowI 4 fun _ => 0)) ∧ Hid (BinAt wr (w.heap.size + 1 + 1) (partF (pairX p) (fun _ => (0, 0)) k)) ∧ Hid (Below w.heap.size w wr)) (fun i _ => 4 - (intOf i).toNat)
  case atStart => exact ⟨0, by omega, rfl, Lib.hid rfl, HA1, HX, HB1⟩
  case round =>
    clear HA1 HX HB1
    obtain ⟨k, hk, rfl, HF, HA1, HX, HB1⟩ := hrel
    by_cases hlt : k < 4
    · have hidx := fun w => index_agg (P := Try.prog) 23 22 4 (rowI 8 p).toArray .i64 (k : Int) _ 2 rfl rfl rfl (by kernel_rfl) (by omega) w
      rw [show (k : Int).toNat = k from rfl, pair_extract p k hlt] at hidx
      cases hbad : farB (p (2 * k)) || farB (p (2 * k + 1))
      · have HF1 : Hid (farAll p (k + 1) = false) := Lib.hid (by rw [farAll, HF.out, hbad]; rfl)
        simp only [farB, Bool.or_eq_false_iff, decide_eq_false_iff_not] at hbad
        have HPX : Hid (partF (pairX p) (fun _ => (0, 0)) (k + 1) k = (p (2 * k), p (2 * k + 1))) := Lib.hid (by simp [partF, pairX])
        generalize p (2 * k) = x at *
        generalize p (2 * k + 1) = y at *
        have f1 : decide (x < -1099511627776) = false := by rw [decide_eq_false_iff_not]; omega
        have f2 : decide (y < -1099511627776) = false := by rw [decide_eq_false_iff_not]; omega
        have f3 : decide (1099511627776 < x) = false := by rw [decide_eq_false_iff_not]; omega
        have f4 : decide (1099511627776 < y) = false := by rw [decide_eq_false_iff_not]; omega
        obtain ⟨vs, hA, hC⟩ := HX.out
        have hxy := hbad
        have ix := intf_is x (by omega)
        have iy := intf_is y (by omega)
        clear hbad
        go_wp2_with (with_reducible refine wpList_store_cell rfl 77 (.tmp 40) (.tmp 39) rfl rfl (w.heap.size + 1 + 1) k rfl (.complex .f64 (floatOfInt .f64 x) (floatOfInt .f64 y)) rfl 79 (rowF 4 vs) (hA.alloc _) (by simp [hlt]) (by kernel_rfl) rfl rfl ?_)
        all_goals (
          intro w3 hA3 hU3
          have HX3 : Hid (BinAt w3 (w.heap.size + 1 + 1) (partF (pairX p) (fun _ => (0, 0)) (k + 1))) := Lib.hid ⟨fun i => if i = k then .complex .f64 (floatOfInt .f64 x) (floatOfInt .f64 y) else vs i, hA3.of_eq (rowF_set _ hlt), fun j hj => by
            by_cases hjk : j = k
            · subst hjk; rw [HPX.out]; simp only [if_pos]; exact ⟨_, _, rfl, ix, iy⟩
            · have h1 := hC j hj
              have e1 : partF (pairX p) (fun _ => (0, 0)) (k + 1) j = partF (pairX p) (fun _ => (0, 0)) k j := by
                unfold partF
                by_cases h2 : j < k
                · simp [h2, Nat.lt_succ_of_lt h2]
                · simp [h2, show ¬ j < k + 1 by omega]
              rw [e1]; simpa [hjk] using h1⟩
          have HA3 := Lib.hid ((HA1.out.alloc _).upd hU3 (by simp))
          have HB3 := Lib.hid (step_upd (HB1.out.alloc HB1.out.size _) hU3 (by omega))
          clear hA3 hU3 hC hA HX HA1 HB1
          go_wp2
          go_round
          case rel => exact ⟨k + 1, by omega, by go_num, HF1, HA3, HX3, HB3⟩
          case measure => simp [intOf]; omega)
      · have HF1 := Lib.hid (farAll_mono p (k := k + 1) (n := 4) (by rw [farAll, hbad]; simp) (by omega))
        have HE : Hid (backE p = 1) := Lib.hid (by rw [backE, if_pos HF1.out])
        have HV : Hid (rowI 4 (backV p) = rowI 4 fun _ => 0) := Lib.hid (by unfold rowI; congr 1; funext i; rw [backV, HE.out]; rfl)
        simp only [farB, Bool.or_eq_true, decide_eq_true_eq] at hbad
        generalize p (2 * k) = x at *
        generalize p (2 * k + 1) = y at *
        clear HX
        rcases Int.lt_trichotomy x y with hxy | rfl | hxy
        · have g1 : x ≤ y := by omega
          have g2 : ¬ y ≤ x := by omega
          have g3 : ¬ y < x := by omega
          by_cases hm : x < -1099511627776
          · have f1 : decide (x < -1099511627776) = true := decide_eq_true hm
            clear hbad
            go_wp2_with (with_reducible refine wpList_store_row rfl 24 (.tmp 2) (.tmp 31) rfl rfl (w.heap.size + 1) (by kernel_rfl) (rowI 4 fun _ => 0) (by kernel_rfl) 24 (rowI 4 fun _ => 0) (HA1.out.alloc _) (by kernel_rfl) (by kernel_rfl) (rowI_one _ _) ?_)
            all_goals (
              intro w5 hA5 hU5
              have h5 : Below w.heap.size w w5 := step_upd (HB1.out.alloc HB1.out.size _) hU5 (by omega)
              clear hU5
              go_wp2
              (try simp only [Exit.inBlock, Exit.then])
              refine bodyPost_ret (results_cell_at2 rfl _ _ (w.heap.size + 1) 24 _ hA5 _ (by kernel_rfl) Try.underlying24 rfl (by kernel_rfl)) rfl ?_
              exact ⟨by rw [HV.out, HE.out]; rfl, h5⟩)
          · have f1 : decide (x < -1099511627776) = false := decide_eq_false hm
            have f2 : decide (1099511627776 < y) = true := by rw [decide_eq_true_eq]; omega
            clear hbad
            go_wp2_with (with_reducible refine wpList_store_row rfl 24 (.tmp 2) (.tmp 31) rfl rfl (w.heap.size + 1) (by kernel_rfl) (rowI 4 fun _ => 0) (by kernel_rfl) 24 (rowI 4 fun _ => 0) (HA1.out.alloc _) (by kernel_rfl) (by kernel_rfl) (rowI_one _ _) ?_)
            all_goals (
              intro w5 hA5 hU5
              have h5 : Below w.heap.size w w5 := step_upd (HB1.out.alloc HB1.out.size _) hU5 (by omega)
              clear hU5
              go_wp2
              (try simp only [Exit.inBlock, Exit.then])
              refine bodyPost_ret (results_cell_at2 rfl _ _ (w.heap.size + 1) 24 _ hA5 _ (by kernel_rfl) Try.underlying24 rfl (by kernel_rfl)) rfl ?_
              exact ⟨by rw [HV.out, HE.out]; rfl, h5⟩)
        · by_cases hm : x < -1099511627776
          · have f1 : decide (x < -1099511627776) = true := decide_eq_true hm
            clear hbad
            go_wp2_with (with_reducible refine wpList_store_row rfl 24 (.tmp 2) (.tmp 31) rfl rfl (w.heap.size + 1) (by kernel_rfl) (rowI 4 fun _ => 0) (by kernel_rfl) 24 (rowI 4 fun _ => 0) (HA1.out.alloc _) (by kernel_rfl) (by kernel_rfl) (rowI_one _ _) ?_)
            all_goals (
              intro w5 hA5 hU5
              have h5 : Below w.heap.size w w5 := step_upd (HB1.out.alloc HB1.out.size _) hU5 (by omega)
              clear hU5
              go_wp2
              (try simp only [Exit.inBlock, Exit.then])
              refine bodyPost_ret (results_cell_at2 rfl _ _ (w.heap.size + 1) 24 _ hA5 _ (by kernel_rfl) Try.underlying24 rfl (by kernel_rfl)) rfl ?_
              exact ⟨by rw [HV.out, HE.out]; rfl, h5⟩)
          · have f1 : decide (x < -1099511627776) = false := decide_eq_false hm
            have f2 : decide (1099511627776 < x) = true := by rw [decide_eq_true_eq]; omega
            clear hbad
            go_wp2_with (with_reducible refine wpList_store_row rfl 24 (.tmp 2) (.tmp 31) rfl rfl (w.heap.size + 1) (by kernel_rfl) (rowI 4 fun _ => 0) (by kernel_rfl) 24 (rowI 4 fun _ => 0) (HA1.out.alloc _) (by kernel_rfl) (by kernel_rfl) (rowI_one _ _) ?_)
            all_goals (
              intro w5 hA5 hU5
              have h5 : Below w.heap.size w w5 := step_upd (HB1.out.alloc HB1.out.size _) hU5 (by omega)
              clear hU5
              go_wp2
              (try simp only [Exit.inBlock, Exit.then])
              refine bodyPost_ret (results_cell_at2 rfl _ _ (w.heap.size + 1) 24 _ hA5 _ (by kernel_rfl) Try.underlying24 rfl (by kernel_rfl)) rfl ?_
              exact ⟨by rw [HV.out, HE.out]; rfl, h5⟩)
        · have g1 : y ≤ x := by omega
          have g2 : ¬ x ≤ y := by omega
          have g3 : ¬ x < y := by omega
          by_cases hm : y < -1099511627776
          · have f1 : decide (y < -1099511627776) = true := decide_eq_true hm
            clear hbad
            go_wp2_with (with_reducible refine wpList_store_row rfl 24 (.tmp 2) (.tmp 31) rfl rfl (w.heap.size + 1) (by kernel_rfl) (rowI 4 fun _ => 0) (by kernel_rfl) 24 (rowI 4 fun _ => 0) (HA1.out.alloc _) (by kernel_rfl) (by kernel_rfl) (rowI_one _ _) ?_)
            all_goals (
              intro w5 hA5 hU5
              have h5 : Below w.heap.size w w5 := step_upd (HB1.out.alloc HB1.out.size _) hU5 (by omega)
              clear hU5
              go_wp2
              (try simp only [Exit.inBlock, Exit.then])
              refine bodyPost_ret (results_cell_at2 rfl _ _ (w.heap.size + 1) 24 _ hA5 _ (by kernel_rfl) Try.underlying24 rfl (by kernel_rfl)) rfl ?_
              exact ⟨by rw [HV.out, HE.out]; rfl, h5⟩)
          · have f1 : decide (y < -1099511627776) = false := decide_eq_false hm
            have f2 : decide (1099511627776 < x) = true := by rw [decide_eq_true_eq]; omega
            clear hbad
            go_wp2_with (with_reducible refine wpList_store_row rfl 24 (.tmp 2) (.tmp 31) rfl rfl (w.heap.size + 1) (by kernel_rfl) (rowI 4 fun _ => 0) (by kernel_rfl) 24 (rowI 4 fun _ => 0) (HA1.out.alloc _) (by kernel_rfl) (by kernel_rfl) (rowI_one _ _) ?_)
            all_goals (
              intro w5 hA5 hU5
              have h5 : Below w.heap.size w w5 := step_upd (HB1.out.alloc HB1.out.size _) hU5 (by omega)
              clear hU5
              go_wp2
              (try simp only [Exit.inBlock, Exit.then])
              refine bodyPost_ret (results_cell_at2 rfl _ _ (w.heap.size + 1) 24 _ hA5 _ (by kernel_rfl) Try.underlying24 rfl (by kernel_rfl)) rfl ?_
              exact ⟨by rw [HV.out, HE.out]; rfl, h5⟩)
    · obtain rfl : k = 4 := by omega
      have hno := farAll_no p HF.out
      obtain ⟨vs, hA, hC⟩ := HX.out
      have HC : Hid (∀ k, k < 4 → CZ (vs k) (pairX p k).1 (pairX p k).2) := Lib.hid fun k hk => by have := hC k hk; simpa [partF, hk] using this
      have HNO := Lib.hid hno
      have HFB : Hid (backE p = if okAll (pairX p) 4 then 0 else 3) := Lib.hid (by rw [backE, HF.out]; rfl)
      clear hC HX hno HF
      go_wp2_with (with_reducible refine wpList_load_at rfl 79 (.tmp 4) rfl (w.heap.size + 1 + 1) (by kernel_rfl) 79 (rowF 4 vs) (hA.alloc _) _ Try.underlying79 rfl (by kernel_rfl) ?_)
      refine allocs1 (F := fun w => Calls _ _ _ w _) ?_
      intro w3 hA7 hB7 _
      have hA3 := HA1.out.below hB7 HA1.out.lt
      have hB3 := step_below HB1.out hB7
      have hb7 : wr.heap.size ≥ w.heap.size + 1 + 1 := by have := hA.lt; omega
      clear hA HA1 HB1 hB7
      refine (four_any vs (pairX p) w3 HC.out (fun k hk => by have := HNO.out k hk; simp only [pairX]; omega)).mono ?_
      rintro e w4 ⟨⟨us, rfl, hus⟩, hb4⟩
      have HA4 := Lib.hid (hA3.below hb4 hA3.lt)
      have HA7 : Hid (At w4 wr.heap.size 24 (rowI 4 fun _ => 0)) := Lib.hid (hA7.below hb4 hA7.lt)
      have HB4 := Lib.hid (step_below hB3 hb4)
      have HU := Lib.hid hus
      clear hus hA3 hA7 hb4 hB3
      go_wp2_with fail
      generalize wr.heap.size = g at *
      have hg : w.heap.size + 1 + 1 ≤ g := hb7
      replace HA7 : Hid (At w4 g 24 (rowI 4 (partF (fun k => (fourS (pairX p) k 4).1.tdiv 4) (fun _ => 0) 0))) := Lib.hid HA7.out
      go_loopw [44] (fun i wr => ∃ k : Nat, k ≤ 4 ∧ i = .int .i64 k ∧ Hid (okAll (pairX p) k = true) ∧ Hid (At wr (w.heap.size + 1) 24 (rowI 4 fun _ => 0)) ∧ Hid (At wr g 24 (rowI 4 (partF (fun k => (fourS (pairX p) k 4).1.tdiv 4) (fun _ => 0) k))) ∧ Hid (Below w.heap.size w wr)) (fun i _ => 4 - (intOf i).toNat)
      case atStart => exact ⟨0, by omega, rfl, Lib.hid rfl, HA4, HA7, HB4⟩
      case round =>
        clear HA4 HA7 HB4
        obtain ⟨k, hk, rfl, HOK, HA4, HA7, HB4⟩ := hrel
        by_cases hlt : k < 4
        · obtain ⟨a, b, hve, hva, hvb⟩ := HU.out k hlt
          have hidx := fun w => index_one (P := Try.prog) 79 77 4 (rowF 4 us).toArray .i64 (k : Int) _ 1 (.complex .f64 a b) rfl rfl rfl (by kernel_rfl) rfl (by omega) (by simp [rowF_get hlt, hve]) w
          have hfs := fourS_abs (pairX p) k 1099511627776 (fun j hj => by have := HNO.out j hj; simp only [pairX]; omega) 4 (by omega)
          have hcz : CZ (.complex .f64 a b) (fourS (pairX p) k 4).1 (fourS (pairX p) k 4).2 := ⟨_, _, rfl, hva, hvb⟩
          have hm : -9007199254740992 ≤ (fourS (pairX p) k 4).1 ∧ (fourS (pairX p) k 4).1 ≤ 9007199254740992 := by omega
          have HK : Hid (okAll (pairX p) (k + 1) = okF (pairX p) k) := Lib.hid (by rw [okAll, HOK.out]; rfl)
          have HQ : Hid ((rowI 4 (partF (fun k => (fourS (pairX p) k 4).1.tdiv 4) (fun _ => 0) k)).set k (.int .i64 ((fourS (pairX p) k 4).1.tdiv 4)) = rowI 4 (partF (fun k => (fourS (pairX p) k 4).1.tdiv 4) (fun _ => 0) (k + 1))) := Lib.hid (by
            unfold rowI
            rw [rowF_set _ hlt]
            refine rowF_ext fun i _ => ?_
            by_cases hik : i = k
            · subst hik; simp [partF]
            · by_cases h2 : i < k
              · simp [hik, partF, h2, Nat.lt_succ_of_lt h2]
              · simp [hik, partF, h2, show ¬ i < k + 1 by omega])
          clear hve hva hvb hfs
          go_wp2_with fail
          refine (Whole_any (.complex .f64 a b) _ _ wr hcz hm).mono ?_
          rintro e _ ⟨rfl, rfl⟩
          have HOF : Hid (okF (pairX p) k = (decide ((fourS (pairX p) k 4).1.tmod 4 = 0) && decide ((fourS (pairX p) k 4).2 = 0))) := Lib.hid rfl
          generalize (decide ((fourS (pairX p) k 4).1.tmod 4 = 0) && decide ((fourS (pairX p) k 4).2 = 0)) = ok at *
          generalize (fourS (pairX p) k 4).1.tdiv 4 = q at *
          clear hidx hcz hm
          cases ok
          · have HN := Lib.hid (okAll_not (pairX p) (k := k + 1) (n := 4) (by rw [HK.out, HOF.out]) (by omega))
            have HE : Hid (backE p = 3) := Lib.hid (by rw [HFB.out, HN.out]; rfl)
            have HV : Hid (rowI 4 (backV p) = rowI 4 fun _ => 0) := Lib.hid (by unfold rowI; congr 1; funext i; rw [backV, HE.out]; rfl)
            go_wp2_with (with_reducible refine wpList_store_row rfl 24 (.tmp 2) (.tmp 55) rfl rfl (w.heap.size + 1) (by kernel_rfl) (rowI 4 fun _ => 0) (by kernel_rfl) 24 (rowI 4 fun _ => 0) HA4.out (by kernel_rfl) (by kernel_rfl) (rowI_one _ _) ?_)
            intro w5 hA5 hU5
            have h5 : Below w.heap.size w w5 := step_upd HB4.out hU5 (by omega)
            clear hU5
            go_wp2
            (try simp only [Exit.inBlock, Exit.then])
            refine bodyPost_ret (results_cell_at2 rfl _ _ (w.heap.size + 1) 24 _ hA5 _ (by kernel_rfl) Try.underlying24 rfl (by kernel_rfl)) rfl ?_
            exact ⟨by rw [HV.out, HE.out]; rfl, h5⟩
          · have HOK1 : Hid (okAll (pairX p) (k + 1) = true) := Lib.hid (by rw [HK.out, HOF.out])
            go_wp2_with (with_reducible refine wpList_store_cell rfl 3 (.tmp 58) (.tmp 57) rfl rfl g k rfl (.int .i64 q) rfl 24 (rowI 4 (partF (fun k => (fourS (pairX p) k 4).1.tdiv 4) (fun _ => 0) k)) HA7.out (by simp [rowI, hlt]) (by kernel_rfl) rfl rfl ?_)
            intro w5 hA5 hU5
            have HA5 := Lib.hid (hA5.of_eq HQ.out)
            have HA6 := Lib.hid (HA4.out.upd hU5 (by omega))
            have HB6 := Lib.hid (step_upd HB4.out hU5 (by omega))
            clear hA5 hU5 HA4 HA7 HB4
            go_wp2
            go_round
            case rel => exact ⟨k + 1, by omega, by go_num, HOK1, HA6, HA5, HB6⟩
            case measure => simp [intOf]; omega
        · obtain rfl : k = 4 := by omega
          have HE : Hid (backE p = 0) := Lib.hid (by rw [HFB.out, HOK.out]; rfl)
          have HV : Hid (rowI 4 (backV p) = rowI 4 (partF (fun k => (fourS (pairX p) k 4).1.tdiv 4) (fun _ => 0) 4)) := Lib.hid (by
            unfold rowI
            refine rowF_ext fun i hi => ?_
            rw [backV, HE.out]; simp [partF, hi])
          go_wp2_with (first
            | (with_reducible refine wpList_load_at rfl 24 (.tmp 7) rfl g (by kernel_rfl) 24 (rowI 4 (partF (fun k => (fourS (pairX p) k 4).1.tdiv 4) (fun _ => 0) 4)) HA7.out _ Try.underlying24 rfl (by kernel_rfl) ?_)
            | (with_reducible refine wpList_store_row rfl 24 (.tmp 2) (.tmp 60) rfl rfl (w.heap.size + 1) (by kernel_rfl) (rowI 4 (partF (fun k => (fourS (pairX p) k 4).1.tdiv 4) (fun _ => 0) 4)) (by kernel_rfl) 24 (rowI 4 fun _ => 0) HA4.out (by kernel_rfl) (by kernel_rfl) (rowI_one _ _) ?_))
          intro w5 hA5 hU5
          have h5 : Below w.heap.size w w5 := step_upd HB4.out hU5 (by omega)
          clear hU5
          go_wp2
          (try simp only [Exit.inBlock, Exit.then])
          refine bodyPost_ret (results_cell_at2 rfl _ _ (w.heap.size + 1) 24 _ hA5 _ (by kernel_rfl) Try.underlying24 rfl (by kernel_rfl)) rfl ?_
          exact ⟨by rw [HV.out, HE.out]; rfl, h5⟩
end Go.Proofs.Ytgkbpdcedighcab
