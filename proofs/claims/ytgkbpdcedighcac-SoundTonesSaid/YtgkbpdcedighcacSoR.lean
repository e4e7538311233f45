/-
  The reference's Fold and Bins, for the law SoundTones.
-/
import Derived.Test.YtgkbpdcedighcacEq3
import Derived.Test.YtgkbpdcedighcacTurnF
namespace Go.Proofs.Ytgkbpdcedighcac
open Go.RowKit Go.Sort

set_option maxRecDepth 100000 in
set_option maxHeartbeats 1000000 in
theorem RWrong_any (a : Option Addr) (n cap : Nat) (z : Nat → Int) (w : World) (hz : IntsAt w a n z) (hn : n ≤ 4611686018427387904) :
    Calls Try.prog 102 #[.slice a n cap] w fun e w' => e = .returned (.int .i64 (wrongZ z n)) ∧ w = w' := by
  have HZ := Lib.hid hz
  clear hz
  by_cases h1 : 4096 < n
  · have hd : decide (4096 < (n : Int)) = true := by rw [decide_eq_true_eq]; omega
    go_enter Try.func102, Try.ntmps102
    go_wp2
    go_ret
    exact ⟨by rw [wrongZ_long h1]; rfl, rfl⟩
  · have hd : decide (4096 < (n : Int)) = false := by rw [decide_eq_false_iff_not]; omega
    go_enter Try.func102, Try.ntmps102
    go_wp2_with fail
    go_loop [3] (fun i => ∃ k : Nat, k ≤ n ∧ i = .int .i64 k ∧ Hid (badB z k = false)) (fun i => n - (intOf i).toNat)
    case atStart => exact ⟨0, by omega, rfl, Lib.hid rfl⟩
    case round =>
      obtain ⟨k, hk, rfl, HK⟩ := hrel
      by_cases hlt : k < n
      · obtain ⟨b, off, rfl, hbw, hc⟩ := HZ.out k hlt
        cases hb : beyB (z k)
        · have HK1 : Hid (badB z (k + 1) = false) := Lib.hid (by rw [badB, HK.out, hb]; rfl)
          simp only [beyB, Bool.or_eq_false_iff] at hb
          obtain ⟨hb1, hb2⟩ := hb
          go_wp2
          go_round
          case rel => exact ⟨k + 1, by omega, by go_num, HK1⟩
          case measure => simp [intOf]; omega
        · have HK1 := Lib.hid (badB_mono z (k := k + 1) (by rw [badB, hb]; simp) hlt)
          cases hb1 : decide (z k < -262144)
          · have hb2 : decide (262144 < z k) = true := by simpa [beyB, hb1] using hb
            clear hb
            go_wp2
            go_ret
            exact ⟨by rw [wrongZ_bad h1 HK1.out]; rfl, rfl⟩
          · clear hb
            go_wp2
            go_ret
            exact ⟨by rw [wrongZ_bad h1 HK1.out]; rfl, rfl⟩
      · obtain rfl : k = n := by omega
        go_wp2
        go_ret
        exact ⟨by rw [wrongZ_ok h1 HK.out]; rfl, rfl⟩

set_option maxRecDepth 100000 in
set_option maxHeartbeats 2000000 in
theorem RFold_any (a : Option Addr) (n cap : Nat) (z : Nat → Int) (w : World) (hz : IntsAt w a n z) (hn : n ≤ 4611686018427387904) :
    Calls Try.prog 57 #[.slice a n cap] w fun e w' => e = .returned (.tuple #[.agg (rowI 4 (foldR z n)).toArray, .int .i64 (wrongZ z n)]) ∧ Below w.heap.size w w' := by
  have HZ := Lib.hid hz
  clear hz
  go_enter Try.func57, Try.ntmps57
  go_wp2_with fail
  refine allocs2 (F := fun w => Calls _ _ _ w _) ?_
  intro w1 hA0 hA1 hB1 _
  replace hA0 : At w1 w.heap.size 95 (rowI 4 fun _ => 0) := hA0
  replace hA1 : At w1 (w.heap.size + 1) 95 (rowI 4 (foldZ z 0)) := hA1
  refine (RWrong_any a n cap z w1 (HZ.out.step hB1) hn).mono ?_
  rintro e _ ⟨rfl, rfl⟩
  have HA0 := Lib.hid hA0
  have HA1 := Lib.hid hA1
  have HB1 := Lib.hid hB1
  clear hA0 hA1 hB1
  by_cases h0 : wrongZ z n = 0
  · have hN := wrongZ_zero h0
    have HB := Lib.hid hN.2
    have HF : Hid (rowI 4 (foldR z n) = rowI 4 (foldZ z n)) := Lib.hid (by unfold rowI; congr 1; funext i; rw [foldR, if_pos h0])
    have HW := Lib.hid h0
    have hn2 := hN.1
    rw [h0]
    clear h0 hN
    go_wp2_with fail
    go_loopw [6] (fun i wr => ∃ k : Nat, k ≤ n ∧ i = .int .i64 k ∧ Hid (At wr w.heap.size 95 (rowI 4 fun _ => 0)) ∧ Hid (At wr (w.heap.size + 1) 95 (rowI 4 (foldZ z k))) ∧ Hid (Below w.heap.size w wr)) (fun i _ => n - (intOf i).toNat)
    case atStart => exact ⟨0, by omega, rfl, HA0, HA1, HB1⟩
    case round =>
      clear HA0 HA1 HB1
      obtain ⟨k, hk, rfl, HA0, HA1, HB1⟩ := hrel
      by_cases hlt : k < n
      · obtain ⟨b, off, rfl, hbw, hc⟩ := HZ.out k hlt
        replace hc := (HB1.out.cell (p := ⟨b, off + k, none⟩) hbw).trans hc
        have hzb := HB.out k hlt
        obtain ⟨r, hr⟩ : ∃ r, r = k % 4 := ⟨_, rfl⟩
        have e1 : (k : Int).tmod 4 = (r : Int) := by rw [Int.tmod_eq_emod_of_nonneg (by omega)]; omega
        have hr4 : r < 4 := by omega
        have hck := HA1.out.cell r (v := .int .i64 (foldZ z k r)) (rowF_get hr4)
        have hfk := HA1.out.frozen r
        have hle := foldZ_le z 262144 r (by omega) k fun i hi => HB.out i (by omega)
        have hs : Hid ((rowI 4 (foldZ z k)).set r (.int .i64 (foldZ z k r + z k)) = rowI 4 (foldZ z (k + 1))) := Lib.hid (by
          unfold rowI
          rw [rowF_set _ hr4]
          refine rowF_ext fun i _ => ?_
          by_cases hir : i = r
          · subst hir; rw [if_pos rfl, foldZ, if_pos hr.symm]
          · rw [if_neg hir, foldZ, if_neg (by omega), Int.add_zero])
        have hst := fun nq => store_fact (P := Try.prog) (HA1.out.drewN nq) r (by simp [rowI, hr4]) (.int .i64 (foldZ z k r + z k)) rfl
        generalize foldZ z k r = f at *
        generalize z k = x at *
        have hb1 : -9223372036854775808 ≤ f + x ∧ f + x ≤ 9223372036854775807 := by omega
        clear hr hle hzb
        go_wp2_with fail
        refine region_drew_tail 12 (by kernel_rfl) (by kernel_rfl) ?_
        simp only [List.take_succ_cons, List.take_zero, List.drop_succ_cons, List.drop_zero]
        repeat (go_big_quiet_step ((fail)))
        refine wpQuiet_nil ?_
        intro _ hw'
        obtain ⟨nq, rfl⟩ := hw'
        have hst2 := hst nq
        clear hst
        go_wp2
        go_round
        case rel =>
          refine ⟨k + 1, by omega, by go_num, Lib.hid ((HA0.out.drewN nq).far (by simp) _), Lib.hid (((HA1.out.drewN nq).set r _).of_eq ?_), Lib.hid (step_upd HB1.out (((Upd.refl (· = w.heap.size + 1) _).drewN nq).here _) (by omega))⟩
          exact hs.out
        case measure => simp [intOf]; omega
      · obtain rfl : k = n := by omega
        go_wp2_with (first
          | (with_reducible refine wpList_load_at rfl 95 (.tmp 4) rfl (w.heap.size + 1) (by kernel_rfl) 95 (rowI 4 (foldZ z k)) HA1.out _ Try.underlying95 rfl (by kernel_rfl) ?_)
          | (with_reducible refine wpList_store_row rfl 95 (.tmp 2) (.tmp 31) rfl rfl w.heap.size (by kernel_rfl) (rowI 4 (foldZ z k)) (by kernel_rfl) 95 (rowI 4 fun _ => 0) HA0.out (by kernel_rfl) (by kernel_rfl) (rowI_one _ _) ?_))
        intro w5 hA5 hU5
        have h5 : Below w.heap.size w w5 := step_upd HB1.out hU5 (by omega)
        clear hU5
        go_wp2
        (try simp only [Exit.inBlock, Exit.then])
        refine bodyPost_ret (results_cell_at2 rfl _ _ w.heap.size 95 _ hA5 _ (by kernel_rfl) Try.underlying95 rfl (by kernel_rfl)) rfl ?_
        exact ⟨by rw [HF.out, HW.out]; rfl, h5⟩
  · have HF : Hid (rowI 4 (foldR z n) = rowI 4 fun _ => 0) := Lib.hid (by unfold rowI; congr 1; funext i; rw [foldR, if_neg h0])
    have HE : Hid (wrongZ z n = wrongZ z n) := Lib.hid rfl
    generalize hx : wrongZ z n = x at h0 HE ⊢
    have HX := Lib.hid hx
    clear hx HE
    have h1 : (x != 0) = true := by simpa using h0
    go_wp2_with (first
      | (with_reducible refine wpList_load_at rfl 95 (.tmp 4) rfl (w.heap.size + 1) (by kernel_rfl) 95 (rowI 4 (foldZ z 0)) HA1.out _ Try.underlying95 rfl (by kernel_rfl) ?_)
      | (with_reducible refine wpList_store_row rfl 95 (.tmp 2) (.tmp 11) rfl rfl w.heap.size (by kernel_rfl) (rowI 4 (foldZ z 0)) (by kernel_rfl) 95 (rowI 4 fun _ => 0) HA0.out (by kernel_rfl) (by kernel_rfl) (rowI_one _ _) ?_))
    intro w5 hA5 hU5
    have h5 : Below w.heap.size w w5 := step_upd HB1.out hU5 (by omega)
    clear hU5
    go_wp2
    (try simp only [Exit.inBlock, Exit.then])
    refine bodyPost_ret (results_cell_at2 rfl _ _ w.heap.size 95 _ hA5 _ (by kernel_rfl) Try.underlying95 rfl (by kernel_rfl)) rfl ?_
    exact ⟨by rw [HF.out, HX.out]; rfl, h5⟩
set_option maxRecDepth 100000 in
set_option maxHeartbeats 2000000 in
theorem Bins_any (f : Nat → Int) (w : World) (hf : ∀ i, i < 4 → -2305843009213693952 ≤ f i ∧ f i ≤ 2305843009213693951) :
    Calls Try.prog 58 #[.agg (rowI 4 f).toArray] w fun e w' => e = .returned (.agg (rowI 8 (binF f)).toArray) ∧ Below w.heap.size w w' := by
  obtain ⟨a1, a2⟩ := hf 0 (by omega)
  obtain ⟨b1, b2⟩ := hf 1 (by omega)
  obtain ⟨c1, c2⟩ := hf 2 (by omega)
  obtain ⟨d1, d2⟩ := hf 3 (by omega)
  have HF : Hid (rowI 8 (binF f) = [.int .i64 (f 0 + f 1 + f 2 + f 3), .int .i64 0, .int .i64 (f 0 - f 2), .int .i64 (f 3 - f 1), .int .i64 (f 0 - f 1 + f 2 - f 3), .int .i64 0, .int .i64 (f 0 - f 2), .int .i64 (f 1 - f 3)]) := Lib.hid rfl
  have HR : rowI 4 f = [.int .i64 (f 0), .int .i64 (f 1), .int .i64 (f 2), .int .i64 (f 3)] := rfl
  rw [HR]
  clear hf HR
  generalize f 0 = p at *
  generalize f 1 = q at *
  generalize f 2 = r at *
  generalize f 3 = s at *
  go_enter Try.func58, Try.ntmps58
  go_wp2
  (try simp only [Exit.inBlock, Exit.then])
  refine allocs2 ?_
  intro w1 _ hA1 hB1 _
  refine bodyPost_ret (results_cell_at rfl _ _ (w.heap.size + 1) 89 _ hA1 _ (by kernel_rfl) Try.underlying89 rfl (by kernel_rfl)) rfl ?_
  exact ⟨by rw [HF.out], hB1⟩
theorem tI_k (k n r : Nat) (h : n % 4 = r) : tI (k * n) = tI ((k * r) % 4) := by
  subst h
  rw [Nat.mul_mod_mod, tI_mod]

theorem binZ_fold (z : Nat → Int) (n : Nat) :
    binZ z 0 n = (foldZ z n 0 + foldZ z n 1 + foldZ z n 2 + foldZ z n 3, 0) ∧ binZ z 1 n = (foldZ z n 0 - foldZ z n 2, foldZ z n 3 - foldZ z n 1)
    ∧ binZ z 2 n = (foldZ z n 0 - foldZ z n 1 + foldZ z n 2 - foldZ z n 3, 0) ∧ binZ z 3 n = (foldZ z n 0 - foldZ z n 2, foldZ z n 1 - foldZ z n 3) := by
  induction n with
  | zero => simp [binZ, foldZ]
  | succ n ih =>
    obtain ⟨h0, h1, h2, h3⟩ := ih
    simp only [binZ, h0, h1, h2, h3, addZ, mulZ_re, foldZ]
    have hr : n % 4 = 0 ∨ n % 4 = 1 ∨ n % 4 = 2 ∨ n % 4 = 3 := by omega
    rcases hr with hr | hr | hr | hr
    all_goals (
      simp only [hr, tI_k 0 n _ hr, tI_k 1 n _ hr, tI_k 2 n _ hr, tI_k 3 n _ hr, tI]
      simp
      omega)

theorem binF_fold (z : Nat → Int) (n i : Nat) (hi : i < 8) : pI (fun k => binZ z k n) i = binF (foldZ z n) i := by
  obtain ⟨h0, h1, h2, h3⟩ := binZ_fold z n
  match i, hi with
  | 0, _ => simp [pI, binF, h0]
  | 1, _ => simp [pI, binF, h0]
  | 2, _ => simp [pI, binF, h1]
  | 3, _ => simp [pI, binF, h1]
  | 4, _ => simp [pI, binF, h2]
  | 5, _ => simp [pI, binF, h2]
  | 6, _ => simp [pI, binF, h3]
  | 7, _ => simp [pI, binF, h3]
end Go.Proofs.Ytgkbpdcedighcac
