/-
  The walk of the law TopProduct.
-/
import Derived.Test.YtgkbpdcedighcabText
import Derived.Test.YtgkbpdcedighcabProdP
import Derived.Test.YtgkbpdcedighcabByte
import Derived.Test.YtgkbpdcedighcabOpenS
namespace Go.Proofs.Ytgkbpdcedighcab
open Go.RowKit Go.Sort

theorem Lsr_out (v : Nat) (w : World) (hv : v < 256) : Calls Try.prog 25 #[.int .u8 (v : Int), .int .u8 0] w fun e w' => Out (v / 2) (decide (v % 2 = 1)) e [] ∧ w = w' := by
  have hs := setN_lt 0 1 (decide (v % 2 = 1)) (by omega) (by omega)
  refine (Lsr_any v 0 w hv (by omega)).mono ?_
  rintro e _ ⟨rfl, rfl⟩
  exact ⟨⟨_, rfl, resN_lt _ _ hs, (res_par _ _ hs).trans (set1_par 0 _ (by omega))⟩, rfl⟩

theorem Ror_out (v p : Nat) (c : Bool) (w : World) (hv : v < 256) (hp : p < 256) (hc : isN p 1 = c) : Calls Try.prog 28 #[.int .u8 (v : Int), .int .u8 (p : Int)] w fun e w' => Out (rightN v c) (decide (v % 2 = 1)) e [] ∧ w = w' := by
  subst hc
  have hs := setN_lt p 1 (decide (v % 2 = 1)) hp (by omega)
  refine (Ror_any v p w hv hp).mono ?_
  rintro e _ ⟨rfl, rfl⟩
  exact ⟨⟨_, rfl, resN_lt _ _ hs, (res_par _ _ hs).trans (set1_par p _ hp)⟩, rfl⟩

theorem right_sum (s : Nat) (hs : s < 512) : rightN (s % 256) (decide (255 < s)) = s / 2 := by
  unfold rightN
  by_cases h1 : 255 < s
  · rw [decide_eq_true h1, if_pos rfl]; omega
  · rw [decide_eq_false h1, if_neg (by decide)]; omega
theorem right_lo (lo s : Nat) : rightN lo (decide (s % 256 % 2 = 1)) = lo / 2 + s % 2 * 128 := by
  unfold rightN
  by_cases h1 : s % 256 % 2 = 1
  · rw [decide_eq_true h1, if_pos rfl]; omega
  · rw [decide_eq_false h1, if_neg (by decide)]; omega

set_option maxRecDepth 100000 in
set_option maxHeartbeats 2000000 in
theorem TopProduct_walk (w : World) (a0 : Int) (ha0 : (Lit.int .u8 a0).wf = true) (b0 : Int) (hb0 : (Lit.int .u8 b0).wf = true) :
    Calls Try.prog 7 #[.int .u8 a0, .int .u8 b0] w fun e w' => e = .returned (.bool true) ∧ Below w.heap.size w w' := by
  obtain ⟨ha1, ha2⟩ := wf_bounds_u8 ha0
  obtain ⟨hb1, hb2⟩ := wf_bounds_u8 hb0
  obtain ⟨a, rfl⟩ : ∃ s : Nat, a0 = (s : Int) := ⟨a0.toNat, by omega⟩
  obtain ⟨b, rfl⟩ : ∃ s : Nat, b0 = (s : Int) := ⟨b0.toNat, by omega⟩
  have ha : a < 256 := by omega
  have hb : b < 256 := by omega
  clear ha0 hb0 ha1 ha2 hb1 hb2
  go_enter Try.func7, Try.ntmps7
  go_wp2_with fail
  refine (Bit_any 1 0 w (by omega) (by omega)).mono ?_
  rintro e _ ⟨rfl, rfl⟩
  rw [show bitB 1 0 = true by decide +kernel]
  go_wp2_with fail
  go_loopw [5, 6, 7, 8] (fun x y z i wr => ∃ k lo hi p : Nat, k ≤ 8 ∧ lo < 256 ∧ hi < 256 ∧ p < 256 ∧ x = .int .u8 lo ∧ y = .int .u8 hi ∧ z = .int .u8 p ∧ i = .int .i64 k ∧ Hid (hi * 256 + lo = prodN a b k) ∧ wr = w) (fun _ _ _ i _ => 8 - (intOf i).toNat)
  case atStart => exact ⟨0, a, 0, 0, by omega, ha, by omega, by omega, rfl, rfl, rfl, rfl, Lib.hid (by unfold prodN; omega), rfl⟩
  case round =>
    obtain ⟨k, lo, hi, p, hk, hlo, hhi, hp, rfl, rfl, rfl, rfl, HN, rfl⟩ := hrel
    by_cases hlt : k < 8
    · have hstep := fun s hs => prodN_step a b k hi lo s HN.out hlo hs
      obtain ⟨s, hs⟩ : ∃ s, s = hi + lo % 2 * b := ⟨_, rfl⟩
      have hst := Lib.hid (hstep s hs)
      clear hstep HN
      have hs2 : s < 512 := by
        rcases Nat.mod_two_eq_zero_or_one lo with h0 | h0 <;> rw [h0] at hs <;> omega
      have hlo2 : lo / 2 + s % 2 * 128 < 256 := by omega
      go_wp2_with fail
      refine (Lsr_out lo wr hlo).mono ?_
      rintro e _ ⟨⟨q, rfl, hq, hqc⟩, rfl⟩
      generalize lo / 2 = u
      by_cases hodd : lo % 2 = 1
      · rw [hodd, Nat.one_mul] at hs
        rw [decide_eq_true hodd] at hqc
        go_wp2_with fail
        refine (FIs_any q 1 wr hq (by omega)).mono ?_
        rintro e _ ⟨rfl, rfl⟩
        rw [hqc]
        go_wp2_with fail
        refine (Add_any hi b 0 wr hhi hb (by omega) rfl).mono ?_
        rintro e _ ⟨⟨q2, rfl, hq2, hc2⟩, rfl⟩
        rw [show hi + b + 0 % 2 = s by omega] at hc2 ⊢
        have hhi2 : s / 2 < 256 := by omega
        have hr1 := right_sum s hs2
        have hr2 := right_lo lo s
        have hrl : s % 256 < 256 := by omega
        generalize s % 256 = r at *
        generalize lo / 2 + s % 2 * 128 = lo' at *
        generalize s / 2 = hi' at *
        clear hs hs2
        go_wp2_with fail
        refine (Ror_out r q2 _ wr hrl hq2 hc2).mono ?_
        rintro e _ ⟨⟨q3, rfl, hq3, hc3⟩, rfl⟩
        rw [hr1]
        go_wp2_with fail
        refine (Ror_out lo q3 _ wr hlo hq3 hc3).mono ?_
        rintro e _ ⟨⟨q4, rfl, hq4, hc4⟩, rfl⟩
        rw [hr2]
        clear hr1 hr2 hrl
        clear hq hqc hq2 hc2 hq3 hc3 hc4 hodd
        go_wp2
        go_round
        case rel => exact ⟨k + 1, lo', hi', q4, by omega, hlo2, hhi2, hq4, rfl, rfl, rfl, by go_num, hst, (by first | rfl | trivial)⟩
        case measure => simp [intOf]; omega
      · rw [decide_eq_false hodd] at hqc
        rw [show lo % 2 = 0 by omega, Nat.zero_mul, Nat.add_zero] at hs
        subst hs
        go_wp2_with fail
        refine (FIs_any q 1 wr hq (by omega)).mono ?_
        rintro e _ ⟨rfl, rfl⟩
        rw [hqc]
        go_wp2_with fail
        have hr1 : rightN s false = s / 2 := rfl
        have hr2 := right_lo lo s
        rw [show s % 256 = s by omega] at hr2
        have hhi2 : s / 2 < 256 := by omega
        generalize lo / 2 + s % 2 * 128 = lo' at *
        generalize s / 2 = hi' at *
        refine (Ror_out s 0 false wr hhi (by omega) rfl).mono ?_
        rintro e _ ⟨⟨q3, rfl, hq3, hc3⟩, rfl⟩
        rw [hr1]
        go_wp2_with fail
        refine (Ror_out lo q3 _ wr hlo hq3 hc3).mono ?_
        rintro e _ ⟨⟨q4, rfl, hq4, hc4⟩, rfl⟩
        rw [hr2]
        clear hr1 hr2
        clear hq hqc hq3 hc3 hc4 hodd
        go_wp2
        go_round
        case rel => exact ⟨k + 1, lo', hi', q4, by omega, hlo2, hhi2, hq4, rfl, rfl, rfl, by go_num, hst, (by first | rfl | trivial)⟩
        case measure => simp [intOf]; omega
    · obtain rfl : k = 8 := by omega
      have hN := HN.out
      rw [prodN_8 a b ha] at hN
      obtain ⟨n, hn⟩ : ∃ n, n = a * b := ⟨_, rfl⟩
      have hn2 : n ≤ 65025 := by
        have h1 : a * b ≤ 255 * 255 := Nat.mul_le_mul (by omega) (by omega)
        omega
      have e2 : (a : Int) * (b : Int) = (n : Int) := by rw [← Int.natCast_mul, hn]
      have e1 : (hi : Int) * 256 + (lo : Int) = (n : Int) := by omega
      clear hN hn HN
      go_wp2_with fail
      refine (Compare_any 5 5 0 wr (by omega) (by omega) (by omega)).mono ?_
      rintro e _ ⟨rfl, rfl⟩
      rw [show resN (setN 0 1 (decide (5 ≤ 5))) ((5 + 256 - 5) % 256) = 3 by decide +kernel]
      go_wp2_with fail
      refine (Text_any p wr hp).mono ?_
      rintro e w1 ⟨⟨xs, hx, rfl⟩, hB⟩
      have hs : (strOfNums xs).toList.isEmpty = false := by
        rw [ByteArray.toList_eq, strOfNums_data]
        cases xs with
        | nil => cases hx
        | cons _ _ => rfl
      generalize strOfNums xs = s at hs ⊢
      go_wp2
      go_ret
      exact ⟨by first | rfl | (rw [hs]; rfl), hB⟩
end Go.Proofs.Ytgkbpdcedighcab
