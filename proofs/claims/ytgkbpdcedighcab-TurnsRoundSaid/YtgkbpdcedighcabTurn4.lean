/-
  The walk of bins.four.
-/
import Derived.Test.YtgkbpdcedighcabTurnW
import Derived.Test.YtgkbpdcedighcabIndex
namespace Go.Proofs.Ytgkbpdcedighcab
open Go.RowKit Go.Sort

def fourS (X : Nat → Int × Int) (n : Nat) : Nat → Int × Int
  | 0 => (0, 0)
  | k + 1 => addZ (fourS X n k) (mulZ (X k) (tI (16 - k * n)))

theorem mulZ_abs (x : Int × Int) (r : Nat) (B : Int) (h : (-B ≤ x.1 ∧ x.1 ≤ B) ∧ (-B ≤ x.2 ∧ x.2 ≤ B)) :
    (-B ≤ (mulZ x (tI r)).1 ∧ (mulZ x (tI r)).1 ≤ B) ∧ (-B ≤ (mulZ x (tI r)).2 ∧ (mulZ x (tI r)).2 ≤ B) := by
  rw [← tI_mod r]
  have : r % 4 < 4 := Nat.mod_lt _ (by omega)
  generalize r % 4 = r at this
  match r, this with
  | 0, _ => simp [tI, mulZ]; omega
  | 1, _ => simp [tI, mulZ]; omega
  | 2, _ => simp [tI, mulZ]; omega
  | 3, _ => simp [tI, mulZ]; omega

theorem fourS_abs (X : Nat → Int × Int) (n : Nat) (B : Int) (h : ∀ k, k < 4 → (-B ≤ (X k).1 ∧ (X k).1 ≤ B) ∧ (-B ≤ (X k).2 ∧ (X k).2 ≤ B)) : ∀ k, k ≤ 4 →
    (-(B * k) ≤ (fourS X n k).1 ∧ (fourS X n k).1 ≤ B * k) ∧ (-(B * k) ≤ (fourS X n k).2 ∧ (fourS X n k).2 ≤ B * k)
  | 0, _ => by simp [fourS]
  | k + 1, hk => by
    have ih := fourS_abs X n B h k (by omega)
    have hm := mulZ_abs (X k) (16 - k * n) B (h k (by omega))
    simp only [fourS, addZ]
    rw [Int.natCast_add, Int.mul_add]
    simp only [Int.natCast_one, Int.mul_one]
    omega

theorem one_abs (x y : Int) (B : Int) (hx : -B ≤ x ∧ x ≤ B) (hy : y.natAbs ≤ 1) : -B ≤ x * y ∧ x * y ≤ B := by
  have : y = 0 ∨ y = 1 ∨ y = -1 := by omega
  rcases this with rfl | rfl | rfl <;> simp <;> omega

set_option maxRecDepth 100000 in
set_option maxHeartbeats 4000000 in
theorem four_any (vs : Nat → Value) (X : Nat → Int × Int) (w : World) (hv : ∀ k, k < 4 → CZ (vs k) (X k).1 (X k).2)
    (hX : ∀ k, k < 4 → (-35184372088832 ≤ (X k).1 ∧ (X k).1 ≤ 35184372088832) ∧ (-35184372088832 ≤ (X k).2 ∧ (X k).2 ≤ 35184372088832)) :
    Calls Try.prog 52 #[.agg (rowF 4 vs).toArray] w fun e w' => (∃ us : Nat → Value, e = .returned (.agg (rowF 4 us).toArray) ∧ ∀ k, k < 4 → CZ (us k) (fourS X k 4).1 (fourS X k 4).2) ∧ Below w.heap.size w w' := by
  have HV := Lib.hid hv
  have HX := Lib.hid hX
  clear hv hX
  go_enter Try.func52, Try.ntmps52
  go_wp2_with fail
  refine allocs3 ?_
  intro w1 hA0 hA1 hA2 hB1 _
  replace hA0 : At w1 w.heap.size 79 (rowF 4 vs) := hA0
  replace hA1 : At w1 (w.heap.size + 1) 79 (rowF 4 fun _ => .complex .f64 0 0) := hA1
  have HA0 := Lib.hid hA0
  have HA1 := Lib.hid hA1
  have HB1 := Lib.hid hB1
  have HX2 : Hid (BinAt w1 (w.heap.size + 1 + 1) fun _ => (0, 0)) := Lib.hid ⟨fun _ => .complex .f64 0 0, hA2, fun j _ => ⟨_, _, rfl, is_zero, is_zero⟩⟩
  clear hA0 hA1 hA2 hB1
  go_loopw [7] (fun i wr => ∃ n : Nat, n ≤ 4 ∧ i = .int .i64 n ∧ Hid (BinAt wr (w.heap.size + 1 + 1) (partF (fun n => fourS X n 4) (fun _ => (0, 0)) n)) ∧ Hid (At wr w.heap.size 79 (rowF 4 vs)) ∧ Hid (At wr (w.heap.size + 1) 79 (rowF 4 fun _ => .complex .f64 0 0)) ∧ Hid (Below w.heap.size w wr)) (fun i _ => 4 - (intOf i).toNat)
  case atStart => exact ⟨0, by omega, rfl, HX2, HA0, HA1, HB1⟩
  case round =>
    clear HX2 HA0 HA1 HB1
    obtain ⟨n, hn, rfl, HX2, HA0, HA1, HB1⟩ := hrel
    by_cases hlt : n < 4
    · have HX3 : Hid (BinAt wr (w.heap.size + 1 + 1) (fun j => if j = n then fourS X n 0 else partF (fun n => fourS X n 4) (fun _ => (0, 0)) n j)) := Lib.hid (HX2.out.ext fun j _ => by
        by_cases hjn : j = n
        · subst hjn; simp [partF, fourS]
        · simp [hjn])
      clear HX2
      go_wp2_with (with_reducible refine wpList_load_at rfl 79 (.tmp 1) rfl w.heap.size (by kernel_rfl) 79 (rowF 4 vs) HA0.out _ Try.underlying79 rfl (by kernel_rfl) ?_)
      go_loopw [11] (fun i wr => ∃ k : Nat, k ≤ 4 ∧ i = .int .i64 k ∧ Hid (BinAt wr (w.heap.size + 1 + 1) (fun j => if j = n then fourS X n k else partF (fun n => fourS X n 4) (fun _ => (0, 0)) n j)) ∧ Hid (At wr w.heap.size 79 (rowF 4 vs)) ∧ Hid (At wr (w.heap.size + 1) 79 (rowF 4 fun _ => .complex .f64 0 0)) ∧ Hid (Below w.heap.size w wr)) (fun i _ => 4 - (intOf i).toNat)
      case atStart => exact ⟨0, by omega, rfl, HX3, HA0, HA1, HB1⟩
      case round =>
        clear HX3 HA0 HA1 HB1
        obtain ⟨k, hk, rfl, HX2, HA0, HA1, HB1⟩ := hrel
        by_cases hlt2 : k < 4
        · obtain ⟨a, b, hve, hva, hvb⟩ := HV.out k hlt2
          have hxk := HX.out k hlt2
          have hidx := fun w => index_one (P := Try.prog) 79 77 4 (rowF 4 vs).toArray .i64 (k : Int) _ 1 (.complex .f64 a b) rfl rfl rfl (by kernel_rfl) rfl (by omega) (by simp [rowF_get hlt2, hve]) w
          obtain ⟨ws, hA, hCZ⟩ := HX2.out
          have hck := hA.cell n (rowF_get hlt)
          have hfk := hA.frozen n
          obtain ⟨xa, xb, hxe, hxa, hxb⟩ := hCZ n hlt
          rw [hxe] at hck
          simp only [if_pos] at hxa hxb
          obtain ⟨m, hm⟩ : ∃ m, m = k * n := ⟨_, rfl⟩
          have hm9 : m ≤ 9 := by rw [hm]; exact Nat.le_trans (Nat.mul_le_mul (show k ≤ 3 by omega) (show n ≤ 3 by omega)) (by omega)
          have e1 : (k : Int) * (n : Int) = (m : Int) := by rw [hm, Int.natCast_mul]
          obtain ⟨r, hr⟩ : ∃ r, r = 16 - m := ⟨_, rfl⟩
          have e2 : 16 - (m : Int) = (r : Int) := by omega
          have hr16 : r ≤ 16 := by omega
          obtain ⟨ta, tb, htv, hta, htb⟩ := tV_cz r
          have hturn := fun w => turn_is r w hr16
          rw [htv] at hturn
          have hts := tI_lt r
          have hma := mulZ_abs (X k) r 35184372088832 hxk
          have hfs := fourS_abs X n 35184372088832 HX.out k (by omega)
          have o1 := one_abs (X k).1 (tI r).1 35184372088832 hxk.1 hts.1
          have o2 := one_abs (X k).2 (tI r).2 35184372088832 hxk.2 hts.2
          have o3 := one_abs (X k).1 (tI r).2 35184372088832 hxk.1 hts.2
          have o4 := one_abs (X k).2 (tI r).1 35184372088832 hxk.2 hts.1
          obtain ⟨pa, pb, hpa, hpb, hmul⟩ := cmul_fact (P := Try.prog) hva hvb hta htb (by omega) (by omega) (by omega) (by omega)
          obtain ⟨ra, rb, hra, hrb, hadd⟩ := cadd_fact (P := Try.prog) (m := (fourS X n k).1) (n := (fourS X n k).2) (p := (mulZ (X k) (tI r)).1) (q := (mulZ (X k) (tI r)).2) hxa hxb hpa hpb (by omega) (by omega)
          have HR : Hid (CZ (.complex .f64 ra rb) (fourS X n (k + 1)).1 (fourS X n (k + 1)).2) := Lib.hid ⟨_, _, rfl, by simp only [fourS, addZ]; rw [← hm, ← hr]; exact hra, by simp only [fourS, addZ]; rw [← hm, ← hr]; exact hrb⟩
          have hst := fun nq => store_fact (P := Try.prog) (hA.drewN nq) n (by simp [hlt]) (.complex .f64 ra rb) rfl
          have HK : Hid (k < 4) := Lib.hid hlt2
          clear hve hva hvb hxk hCZ hxe hxa hxb hm hr hta htb htv hts hma hfs o1 o2 o3 o4 hpa hpb hra hrb hA
          go_wp2_with fail
          refine region_drew_tail 12 (by kernel_rfl) (by kernel_rfl) ?_
          simp only [List.take_succ_cons, List.take_zero, List.drop_succ_cons, List.drop_zero]
          repeat (go_big_quiet_step (((go_at_call 76; exact Calls.quiet_of_same ((hturn _).mono fun _ _ h => ⟨h.1, h.2.symm⟩)))))
          refine wpQuiet_nil ?_
          intro _ hw'
          obtain ⟨nq, rfl⟩ := hw'
          have hst2 := hst nq
          go_wp2
          go_round
          case rel =>
            refine ⟨k + 1, hlt2, by go_num, Lib.hid ?_, Lib.hid ((HA0.out.drewN nq).far (by simp; omega) _), Lib.hid ((HA1.out.drewN nq).far (by simp) _), Lib.hid (step_upd (HB1.out) (((Upd.refl (· = w.heap.size + 1 + 1) _).drewN nq).here _) (by omega))⟩
            have hbd : BinAt (wr.drewN nq) (w.heap.size + 1 + 1) _ := HX2.out
            refine (hbd.set hlt HR.out).ext fun j' _ => ?_
            by_cases hjn : j' = n
            · simp [hjn]
            · simp [hjn]
          case measure => simp [intOf]; omega
        · obtain rfl : k = 4 := by omega
          go_wp2
          go_round
          case rel =>
            refine ⟨n + 1, by omega, by go_num, Lib.hid (HX2.out.ext fun j' _ => ?_), HA0, HA1, HB1⟩
            by_cases hjn : j' = n
            · subst hjn; simp [partF]
            · unfold partF
              by_cases h1 : j' < n
              · simp [hjn, h1, Nat.lt_succ_of_lt h1]
              · simp [hjn, h1, show ¬ j' < n + 1 by omega]
          case measure => simp [intOf]; omega
    · obtain rfl : n = 4 := by omega
      obtain ⟨us, hA, hC⟩ := HX2.out
      go_wp2_with (first
        | (with_reducible refine wpList_load_at rfl 79 (.tmp 3) rfl (w.heap.size + 1 + 1) (by kernel_rfl) 79 (rowF 4 us) hA _ Try.underlying79 rfl (by kernel_rfl) ?_)
        | (with_reducible refine wpList_store_row rfl 79 (.tmp 2) (.tmp 29) rfl rfl (w.heap.size + 1) (by kernel_rfl) (rowF 4 us) (by kernel_rfl) 79 (rowF 4 fun _ => .complex .f64 0 0) HA1.out (by kernel_rfl) (by kernel_rfl) (rowF_all fun i hi => (hC i hi).cell) ?_))
      intro w5 hA5 hU5
      have h5 : Below w.heap.size w w5 := step_upd HB1.out hU5 (by omega)
      clear hU5
      go_wp2
      (try simp only [Exit.inBlock, Exit.then])
      refine bodyPost_ret (results_cell_at rfl _ _ (w.heap.size + 1) 79 _ hA5 _ (by kernel_rfl) Try.underlying79 rfl (by kernel_rfl)) rfl ?_
      refine ⟨⟨us, rfl, fun k hk => ?_⟩, h5⟩
      have := hC k hk
      simpa [partF, hk] using this
end Go.Proofs.Ytgkbpdcedighcab
