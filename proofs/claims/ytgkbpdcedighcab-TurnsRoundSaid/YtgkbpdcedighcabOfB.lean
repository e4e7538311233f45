/-
  turns.of, to the word.
-/
import Derived.Test.YtgkbpdcedighcabTurnOf
namespace Go.Proofs.Ytgkbpdcedighcab
open Go.RowKit Go.Sort

def cx (b : Nat × Nat) : Value := .complex .f64 b.1 b.2
def atB (k : Nat) : Nat → Nat × Nat
  | 0 => (4607182418800017408, 0)
  | j + 1 => (cMulBits (atB k j).1 (atB k j).2 (tB (k % 4)).1 (tB (k % 4)).2).getD (0, 0)
def prB (z : Nat → Int) (k j : Nat) : Nat × Nat := (cMulBits (floatOfInt .f64 (z j)) 0 (atB k j).1 (atB k j).2).getD (0, 0)
def smB (z : Nat → Int) (k : Nat) : Nat → Nat × Nat
  | 0 => (0, 0)
  | j + 1 => (cSumBits .add .f64 (smB z k j).1 (smB z k j).2 (prB z k j).1 (prB z k j).2).getD (0, 0)

theorem csum_bits {a b c d : Nat} {m n p q : Int} (ha : F64.Is a m) (hb : F64.Is b n) (hc : F64.Is c p) (hd : F64.Is d q)
    (h1 : (m + p).natAbs < 9007199254740992) (h2 : (n + q).natAbs < 9007199254740992) : ∃ re im, cSumBits .add .f64 a b c d = some (re, im) ∧ F64.Is re (m + p) ∧ F64.Is im (n + q) := by
  obtain ⟨re, e1, i1⟩ := F64.add_is ha hc h1
  obtain ⟨im, e2, i2⟩ := F64.add_is hb hd h2
  have g1 : floatBits .add .f64 a c = some re := e1
  have g2 : floatBits .add .f64 b d = some im := e2
  exact ⟨re, im, by simp only [cSumBits, g1, g2, Option.bind_some], i1, i2⟩

theorem atB_step (k j : Nat) (h1 : F64.Is (atB k j).1 (tI (k * j)).1) (h2 : F64.Is (atB k j).2 (tI (k * j)).2) :
    cMulBits (atB k j).1 (atB k j).2 (tB (k % 4)).1 (tB (k % 4)).2 = some (atB k (j + 1)) ∧ F64.Is (atB k (j + 1)).1 (tI (k * (j + 1))).1 ∧ F64.Is (atB k (j + 1)).2 (tI (k * (j + 1))).2 := by
  have hb := tI_lt (k * j)
  have hs := tI_lt k
  obtain ⟨s1, s2, _⟩ := tB_is (k % 4)
  rw [tI_mod] at s1 s2
  have m : ∀ x y : Int, x.natAbs ≤ 1 → y.natAbs ≤ 1 → (x * y).natAbs < 4503599627370496 := fun x y hx hy => by
    rw [Int.natAbs_mul]; exact Nat.lt_of_le_of_lt (Nat.mul_le_mul hx hy) (by omega)
  obtain ⟨re, im, h, i1, i2⟩ := cmul_bits h1 h2 s1 s2 (m _ _ hb.1 hs.1) (m _ _ hb.2 hs.2) (m _ _ hb.1 hs.2) (m _ _ hb.2 hs.1)
  have e : atB k (j + 1) = (re, im) := by
    show (cMulBits (atB k j).1 (atB k j).2 (tB (k % 4)).1 (tB (k % 4)).2).getD (0, 0) = _
    rw [h]; rfl
  rw [e, Nat.mul_add, Nat.mul_one, ← mulZ_tI]
  exact ⟨h, i1, i2⟩
theorem atB_is (k : Nat) : ∀ j, F64.Is (atB k j).1 (tI (k * j)).1 ∧ F64.Is (atB k j).2 (tI (k * j)).2
  | 0 => ⟨is_one, is_zero⟩
  | j + 1 => (atB_step k j (atB_is k j).1 (atB_is k j).2).2

theorem smB_step (z : Nat → Int) (k j : Nat) (hz : -262144 ≤ z j ∧ z j ≤ 262144) (hb : (-1073741824 ≤ (binZ z k j).1 ∧ (binZ z k j).1 ≤ 1073741824) ∧ (-1073741824 ≤ (binZ z k j).2 ∧ (binZ z k j).2 ≤ 1073741824))
    (h1 : F64.Is (smB z k j).1 (binZ z k j).1) (h2 : F64.Is (smB z k j).2 (binZ z k j).2) :
    cMulBits (floatOfInt .f64 (z j)) 0 (atB k j).1 (atB k j).2 = some (prB z k j) ∧ cSumBits .add .f64 (smB z k j).1 (smB z k j).2 (prB z k j).1 (prB z k j).2 = some (smB z k (j + 1))
      ∧ F64.Is (smB z k (j + 1)).1 (binZ z k (j + 1)).1 ∧ F64.Is (smB z k (j + 1)).2 (binZ z k (j + 1)).2 := by
  have htb := tI_lt (k * j)
  have hta := tI_abs (k * j) (z j) 262144 hz
  obtain ⟨hva, hvb⟩ := atB_is k j
  obtain ⟨pa, pb, hm, hpa, hpb⟩ := cmul_bits (intf_is (z j) (by omega)) is_zero hva hvb (by omega) (by simp) (by omega) (by simp)
  have hpa' : F64.Is pa (z j * (tI (k * j)).1) := by simpa using hpa
  have hpb' : F64.Is pb (z j * (tI (k * j)).2) := by simpa using hpb
  have ep : prB z k j = (pa, pb) := by rw [prB, hm]; rfl
  obtain ⟨ra, rb, hs, hra, hrb⟩ := csum_bits h1 h2 hpa' hpb' (by omega) (by omega)
  have es : smB z k (j + 1) = (ra, rb) := by
    show (cSumBits .add .f64 (smB z k j).1 (smB z k j).2 (prB z k j).1 (prB z k j).2).getD (0, 0) = _
    rw [ep, hs]; rfl
  rw [es, ep]
  exact ⟨hm, hs, by simp only [binZ, mulZ_re]; exact hra, by simp only [binZ, mulZ_re]; exact hrb⟩
theorem smB_is (z : Nat → Int) (k n : Nat) (hn : n ≤ 4096) (hz : ∀ i, i < n → -262144 ≤ z i ∧ z i ≤ 262144) : ∀ j, j ≤ n → F64.Is (smB z k j).1 (binZ z k j).1 ∧ F64.Is (smB z k j).2 (binZ z k j).2
  | 0, _ => ⟨is_zero, is_zero⟩
  | j + 1, h => by
    obtain ⟨h1, h2⟩ := smB_is z k n hn hz j (by omega)
    have hbz := binZ_le z k 262144 j fun i hi => hz i (by omega)
    exact (smB_step z k j (hz j (by omega)) (by omega) h1 h2).2.2

set_option maxRecDepth 100000 in
set_option maxHeartbeats 4000000 in
theorem of_is (a : Option Addr) (n cap : Nat) (z : Nat → Int) (w : World) (hz : IntsAt w a n z) (hn : n ≤ 4096) (hb : ∀ i, i < n → -262144 ≤ z i ∧ z i ≤ 262144) :
    Calls Try.prog 55 #[.slice a n cap] w fun e w' => e = .returned (.agg (rowF 4 fun k => cx (smB z k n)).toArray) ∧ Below w.heap.size w w' := by
  have HZ := Lib.hid hz
  have HB := Lib.hid hb
  clear hz hb
  go_enter Try.func55, Try.ntmps55
  go_wp2_with fail
  refine allocs2 ?_
  intro w1 hA0 hA1 hB1 _
  have HA0 : Hid (At w1 w.heap.size 79 (rowF 4 fun _ => cx (0, 0))) := Lib.hid hA0
  have HX : Hid (At w1 (w.heap.size + 1) 79 (rowF 4 (partF (fun k => cx (smB z k n)) (fun _ => cx (0, 0)) 0))) := Lib.hid hA1
  have HW := Lib.hid hB1
  clear hA0 hA1 hB1
  go_wp2_with fail
  go_loopw [9] (fun i wr => ∃ k : Nat, k ≤ 4 ∧ i = .int .i64 k ∧ Hid (At wr (w.heap.size + 1) 79 (rowF 4 (partF (fun k => cx (smB z k n)) (fun _ => cx (0, 0)) k))) ∧ Hid (At wr w.heap.size 79 (rowF 4 fun _ => cx (0, 0))) ∧ Hid (Below w.heap.size w wr)) (fun i _ => 4 - (intOf i).toNat)
  case atStart => exact ⟨0, by omega, rfl, HX, HA0, HW⟩
  case round =>
    clear HX HA0 HW
    obtain ⟨k, hk, rfl, HX, HA0, HW⟩ := hrel
    by_cases hlt : k < 4
    · go_wp2_with fail
      refine (turn_is k wr (by omega)).mono ?_
      rintro e _ ⟨rfl, rfl⟩
      rw [show tV k = cx (tB (k % 4)) from rfl]
      have HX0 : Hid (At wr (w.heap.size + 1) 79 (rowF 4 (fun j => if j = k then cx (smB z k 0) else partF (fun k => cx (smB z k n)) (fun _ => cx (0, 0)) k j))) := Lib.hid (HX.out.of_eq (rowF_ext fun j _ => by
        by_cases hjk : j = k
        · subst hjk; simp [partF, smB]
        · simp [hjk]))
      clear HX
      simp only [cx]
      go_wp2_with fail
      go_loopw [6, 16] (fun v i wr => ∃ j : Nat, j ≤ n ∧ i = .int .i64 j ∧ v = .complex .f64 (atB k j).1 (atB k j).2 ∧ Hid (At wr (w.heap.size + 1) 79 (rowF 4 (fun j' => if j' = k then cx (smB z k j) else partF (fun k => cx (smB z k n)) (fun _ => cx (0, 0)) k j'))) ∧ Hid (At wr w.heap.size 79 (rowF 4 fun _ => cx (0, 0))) ∧ Hid (Below w.heap.size w wr)) (fun _ i _ => n - (intOf i).toNat)
      case atStart => exact ⟨0, by omega, rfl, rfl, HX0, HA0, HW⟩
      case round =>
        clear HX0 HA0 HW
        obtain ⟨j, hj, rfl, rfl, HX, HA0, HW⟩ := hrel
        by_cases hlt2 : j < n
        · obtain ⟨b, off, rfl, hbw, hc⟩ := HZ.out j hlt2
          replace hc := (HW.out.cell (p := ⟨b, off + j, none⟩) hbw).trans hc
          have hzb := HB.out j hlt2
          have hbz := binZ_le z k 262144 j fun i hi => HB.out i (by omega)
          obtain ⟨i1, i2⟩ := smB_is z k n hn HB.out j (by omega)
          obtain ⟨hm, hs, -, -⟩ := smB_step z k j hzb (by omega) i1 i2
          obtain ⟨ha, -, -⟩ := atB_step k j (atB_is k j).1 (atB_is k j).2
          have hck : wr.cell? ⟨w.heap.size + 1, k, none⟩ = some (.complex .f64 (smB z k j).1 (smB z k j).2) := by
            have h := HX.out.cell k (rowF_get (f := fun j' => if j' = k then cx (smB z k j) else partF (fun k => cx (smB z k n)) (fun _ => cx (0, 0)) k j') hlt)
            simpa [cx] using h
          have hfk := HX.out.frozen k
          have hmul : ∀ (t : TypeId) (w : World), (binOp .mul t (.complex .f64 (floatOfInt .f64 (z j)) 0) (.complex .f64 (atB k j).1 (atB k j).2)).run Try.prog w = .ok (.complex .f64 (prB z k j).1 (prB z k j).2) w := fun t w => run_complex_mul w t _ _ _ _ (prB z k j).1 (prB z k j).2 hm
          have hadd : ∀ (t : TypeId) (w : World), (binOp .add t (.complex .f64 (smB z k j).1 (smB z k j).2) (.complex .f64 (prB z k j).1 (prB z k j).2)).run Try.prog w = .ok (.complex .f64 (smB z k (j + 1)).1 (smB z k (j + 1)).2) w := fun t w => run_complex_sum w .add (.inl rfl) t .f64 _ _ _ _ (smB z k (j + 1)).1 (smB z k (j + 1)).2 hs
          have hat : ∀ (t : TypeId) (w : World), (binOp .mul t (.complex .f64 (atB k j).1 (atB k j).2) (.complex .f64 (tB (k % 4)).1 (tB (k % 4)).2)).run Try.prog w = .ok (.complex .f64 (atB k (j + 1)).1 (atB k (j + 1)).2) w := fun t w => run_complex_mul w t _ _ _ _ (atB k (j + 1)).1 (atB k (j + 1)).2 ha
          have hst := store_fact (P := Try.prog) HX.out k (by simp [hlt]) (.complex .f64 (smB z k (j + 1)).1 (smB z k (j + 1)).2) rfl
          have HR : Hid ((rowF 4 (fun j' => if j' = k then cx (smB z k j) else partF (fun k => cx (smB z k n)) (fun _ => cx (0, 0)) k j')).set k (.complex .f64 (smB z k (j + 1)).1 (smB z k (j + 1)).2) = rowF 4 (fun j' => if j' = k then cx (smB z k (j + 1)) else partF (fun k => cx (smB z k n)) (fun _ => cx (0, 0)) k j')) := Lib.hid (by
            rw [rowF_set _ hlt]
            refine rowF_ext fun i _ => ?_
            by_cases hik : i = k
            · simp [hik, cx]
            · simp [hik])
          clear hm hs ha i1 i2 hbz hzb
          have HA2 : Hid (atB k (j + 1) = atB k (j + 1)) := Lib.hid rfl
          generalize hq : atB k (j + 1) = q at *
          have HQ := Lib.hid hq
          generalize smB z k j = s0 at *
          generalize hs1 : smB z k (j + 1) = s1 at *
          have HS1 := Lib.hid hs1
          clear hs1
          generalize prB z k j = pr at *
          generalize tB (k % 4) = tb at *
          generalize atB k j = aj at *
          clear hq HA2
          obtain ⟨q1, q2⟩ := q
          obtain ⟨s01, s02⟩ := s0
          obtain ⟨s11, s12⟩ := s1
          obtain ⟨p1, p2⟩ := pr
          obtain ⟨t1, t2⟩ := tb
          obtain ⟨a1, a2⟩ := aj
          dsimp only at hmul hadd hat hck hst HR ⊢
          go_wp2
          go_round
          case rel =>
            refine ⟨j + 1, by omega, by go_num, by rw [HQ.out], Lib.hid ((HX.out.set k _).of_eq ?_), Lib.hid (HA0.out.far (by simp) _), Lib.hid (step_upd HW.out ((Upd.refl _ _).here _) (by omega))⟩
            rw [HS1.out]
            exact HR.out
          case measure => simp [intOf]; omega
        · obtain rfl : j = n := by omega
          go_wp2
          go_round
          case rel =>
            refine ⟨k + 1, by omega, by go_num, Lib.hid (HX.out.of_eq (rowF_ext fun j' _ => ?_)), HA0, HW⟩
            by_cases hjk : j' = k
            · subst hjk; simp [partF]
            · unfold partF
              by_cases h1 : j' < k
              · simp [hjk, h1, Nat.lt_succ_of_lt h1]
              · simp [hjk, h1, show ¬ j' < k + 1 by omega]
          case measure => simp [intOf]; omega
    · obtain rfl : k = 4 := by omega
      have hA : At wr (w.heap.size + 1) 79 (rowF 4 fun k => cx (smB z k n)) := HX.out.of_eq rowF_part_full
      go_wp2_with (first
        | (with_reducible refine wpList_load_at rfl 79 (.tmp 3) rfl (w.heap.size + 1) (by kernel_rfl) 79 (rowF 4 fun k => cx (smB z k n)) hA _ Try.underlying79 rfl (by kernel_rfl) ?_)
        | (with_reducible refine wpList_store_row rfl 79 (.tmp 2) (.tmp 35) rfl rfl w.heap.size (by kernel_rfl) (rowF 4 fun k => cx (smB z k n)) (by kernel_rfl) 79 (rowF 4 fun _ => cx (0, 0)) HA0.out (by kernel_rfl) (by kernel_rfl) (rowF_all fun _ _ => rfl) ?_))
      intro w5 hA5 hU5
      have h5 : Below w.heap.size w w5 := step_upd HW.out hU5 (by omega)
      clear hU5
      go_wp2
      (try simp only [Exit.inBlock, Exit.then])
      refine bodyPost_ret (results_cell_at rfl _ _ w.heap.size 79 _ hA5 _ (by kernel_rfl) Try.underlying79 rfl (by kernel_rfl)) rfl ?_
      exact ⟨rfl, h5⟩
end Go.Proofs.Ytgkbpdcedighcab
