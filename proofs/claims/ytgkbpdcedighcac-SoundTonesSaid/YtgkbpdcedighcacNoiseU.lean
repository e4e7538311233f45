/-
  The walks of the package noise: Jump.
-/
import Derived.Test.YtgkbpdcedighcacNoiseO
namespace Go.Proofs.Ytgkbpdcedighcac
open Go.RowKit Go.Sort NoiseP

/-- The map of p steps of f. -/
def mP (f : Nat → Nat) (p i : Nat) : Nat := iter f p (2 ^ i)
theorem mP_lt {f : Nat → Nat} (hf : Lin f) (p : Nat) : ∀ i, i < 18 → mP f p i < 262144 := fun i hi => iter_lt hf p _ (two_pow_lt i hi)
theorem mP_of {f : Nat → Nat} (hf : Lin f) (p s : Nat) (hs : s < 262144) : ofK (mP f p) s 18 = iter f p s := of_one (hf.iter p) s hs
theorem mP_twice {f : Nat → Nat} (hf : Lin f) (p : Nat) : mL (fun i => ofK (mP f p) (mP f p i) 18) = mL (mP f (2 * p)) := by
  apply List.map_congr_left
  intro i hi
  have hi' : i < 18 := by simpa using hi
  simp only [mP_of hf p _ (mP_lt hf p i hi')]
  rw [show 2 * p = p + p by omega, mP, mP, iter_add]
theorem mP_one (f : Nat → Nat) : mL (fun i => f (2 ^ i)) = mL (mP f 1) := rfl
theorem jump_odd (f : Nat → Nat) (p l t : Nat) (h : l % 2 = 1) : iter f (2 * p * (l / 2)) (iter f p t) = iter f (p * l) t := by
  rw [← iter_add]
  congr 1
  have : l = 2 * (l / 2) + 1 := by omega
  generalize l / 2 = q at this
  subst this
  rw [Nat.mul_add, Nat.mul_one, ← Nat.mul_assoc, Nat.mul_comm p 2]
  omega
theorem jump_even (f : Nat → Nat) (p l t : Nat) (h : l % 2 = 0) : iter f (2 * p * (l / 2)) t = iter f (p * l) t := by
  congr 1
  have : l = 2 * (l / 2) := by omega
  generalize l / 2 = q at this
  subst this
  rw [← Nat.mul_assoc, Nat.mul_comm p 2]
theorem ofInt_u64 (a : Nat) (ha : a < 18446744073709551616) : (BitVec.ofInt 64 (a : Int)).toNat = a := by
  simp; omega
theorem wrap_u64_nat (a : Nat) (ha : a < 18446744073709551616) : IntKind.u64.wrap (a : Int) = a := by simp [IntKind.wrap, IntKind.signed, IntKind.bits]; omega
theorem u64_odd (l : Nat) (h : l < 18446744073709551616) : bits .and .u64 (l : Int) 1 = ((l % 2 : Nat) : Int) := by
  rw [← Nat.and_one_is_mod]
  have hx : l &&& 1 < 2 ^ 64 := Nat.and_lt_two_pow _ (by omega)
  show IntKind.u64.wrap ((BitVec.ofInt 64 (l : Int) &&& BitVec.ofInt 64 ((1 : Nat) : Int)).toNat : Int) = _
  rw [BitVec.toNat_and, ofInt_u64 l h, ofInt_u64 1 (by omega), wrap_u64_nat _ (by omega)]

set_option maxHeartbeats 2000000 in
theorem Jump_any (s : Nat) (n : Int) (w : World) (hs : s < 4294967296) (hn : -9223372036854775808 ≤ n ∧ n ≤ 9223372036854775807) :
    Calls Try.prog 114 #[.int .u32 (s : Int), .int .i64 n] w fun e w' => e = .returned (.int .u32 (jumpN s n : Nat)) ∧ Below w.heap.size w w' := by
  have ha := and18 s hs
  obtain ⟨t0, ht0⟩ : ∃ t0 : Nat, t0 = s % 262144 := ⟨_, rfl⟩
  have hj : ∀ l : Nat, l = n.toNat → 0 ≤ n → jumpN s n = iter nextN l t0 := by
    intro l hl h0
    rw [jumpN, if_pos h0, hl, ht0]
  have hk : ∀ l : Nat, l = (-n).toNat → n < 0 → jumpN s n = iter backN l t0 := by
    intro l hl h0
    rw [jumpN, if_neg (by omega), hl, ht0]
  have ht : t0 < 262144 := by omega
  rw [← ht0] at ha
  clear ht0
  have HJ := Lib.hid hj
  have HK := Lib.hid hk
  clear hj hk
  by_cases hneg : n < 0
  · obtain ⟨l0, hl0⟩ : ∃ l0 : Nat, l0 = (-n).toNat := ⟨_, rfl⟩
    obtain rfl : n = -(l0 : Int) := by omega
    have hL : l0 ≤ 9223372036854775808 := by omega
    have hn4 : IntKind.u64.wrap (-IntKind.u64.wrap (-(l0 : Int))) = (l0 : Int) := by
      simp only [IntKind.wrap, IntKind.signed, IntKind.bits]
      simp
      omega
    have hW := Lib.hid (HK.out l0 hl0 hneg)
    rw [hW.out]
    clear hl0
    go_enter Try.func114, Try.ntmps114
    go_wp2_with fail
    refine (one_Next w).mono ?_
    rintro e w1 ⟨rfl, hB1⟩
    have hA1 : At (w1.alloc (.cells #[.int .u32 0, .int .u32 0, .int .u32 0, .int .u32 0, .int .u32 0, .int .u32 0, .int .u32 0, .int .u32 0, .int .u32 0, .int .u32 0, .int .u32 0, .int .u32 0, .int .u32 0, .int .u32 0, .int .u32 0, .int .u32 0, .int .u32 0, .int .u32 0] 193)) w1.heap.size 193 (mL (part (fun i => nextN (2 ^ i)) 0)) := (At.new w1 #[.int .u32 0, .int .u32 0, .int .u32 0, .int .u32 0, .int .u32 0, .int .u32 0, .int .u32 0, .int .u32 0, .int .u32 0, .int .u32 0, .int .u32 0, .int .u32 0, .int .u32 0, .int .u32 0, .int .u32 0, .int .u32 0, .int .u32 0, .int .u32 0] 193).of_eq (mL_zero _)
    have hb1 : Below w.heap.size w (w1.alloc (.cells #[.int .u32 0, .int .u32 0, .int .u32 0, .int .u32 0, .int .u32 0, .int .u32 0, .int .u32 0, .int .u32 0, .int .u32 0, .int .u32 0, .int .u32 0, .int .u32 0, .int .u32 0, .int .u32 0, .int .u32 0, .int .u32 0, .int .u32 0, .int .u32 0] 193)) := hB1.alloc hB1.size _
    have hle := hB1.size
    go_wp2_with (with_reducible refine wpList_store_row rfl 193 (.tmp 5) (.tmp 9) rfl rfl w1.heap.size (by kernel_rfl) (mL fun i => nextN (2 ^ i)) (by kernel_rfl) 193 (mL (part (fun i => nextN (2 ^ i)) 0)) hA1 (by rw [mL_len, mL_len]) (by rw [mL_len]; kernel_rfl) (mL_cells _) ?_)
    intro w2 hA2 hU2
    have HA2 := Lib.hid hA2
    have HB2 := Lib.hid (step_upd hb1 hU2 hle)
    clear hA2 hU2 hA1 hb1 hB1
    go_wp2_with fail
    refine (one_Back w2).mono ?_
    rintro e w3 ⟨rfl, hB3⟩
    have HA3 := Lib.hid (HA2.out.below hB3 HA2.out.lt)
    have HB3 := Lib.hid (step_below HB2.out hB3)
    clear hB3 HA2 HB2
    go_wp2_with (with_reducible refine wpList_store_row rfl 193 (.tmp 5) (.tmp 14) rfl rfl w1.heap.size (by kernel_rfl) (mL fun i => backN (2 ^ i)) (by kernel_rfl) 193 (mL fun i => nextN (2 ^ i)) HA3.out (by rw [mL_len, mL_len]) (by rw [mL_len]; kernel_rfl) (mL_cells _) ?_)
    intro w4 hA4 hU4
    have HA2 := Lib.hid (hA4.of_eq (mP_one backN))
    have HB2 := Lib.hid (step_upd HB3.out hU4 hle)
    clear hA4 hU4 HA3 HB3
    go_wp2
    go_loopw [0, 6] (fun s left wr => ∃ t p l : Nat, s = .int .u32 t ∧ left = .int .u64 l ∧ t < 262144 ∧ l ≤ 9223372036854775808 ∧ Hid (iter backN l0 t0 = iter backN (p * l) t) ∧ Hid (At wr w1.heap.size 193 (mL (mP backN p))) ∧ Hid (Below w.heap.size w wr)) (fun _ left _ => (intOf left).toNat)
    case atStart => exact ⟨t0, 1, l0, rfl, by first | rfl | rw [hn4], ht, hL, Lib.hid (by rw [Nat.one_mul]), HA2, HB2⟩
    case round =>
      obtain ⟨t, p, l, rfl, rfl, ht, hl, HI, HA, HB⟩ := hrel
      by_cases hpos : 0 < l
      · have ho := u64_odd l (by omega)
        rcases Nat.mod_two_eq_zero_or_one l with hm | hm
        all_goals rw [hm] at ho
        case inl =>
          have HI2 := Lib.hid (HI.out.trans (jump_even backN p l t hm).symm)
          clear hm HI
          go_wp2_with (with_reducible refine wpList_load_at rfl 193 (.tmp 5) rfl w1.heap.size (by kernel_rfl) 193 (mL (mP backN p)) HA.out _ Try.underlying193 rfl (by rw [mL_len]; kernel_rfl) ?_)
          refine (twice_any (mP backN p) _ (mP_lt lin_back p)).mono ?_
          rintro e w4 ⟨rfl, hb4⟩
          have HA4 := Lib.hid (HA.out.below hb4 HA.out.lt)
          have HB4 := Lib.hid (step_below HB.out hb4)
          clear hb4 HA HB
          go_wp2_with (with_reducible refine wpList_store_row rfl 193 (.tmp 5) (.tmp 28) rfl rfl w1.heap.size (by kernel_rfl) (mL fun i => ofK (mP backN p) (mP backN p i) 18) (by kernel_rfl) 193 (mL (mP backN p)) HA4.out (by rw [mL_len, mL_len]) (by rw [mL_len]; kernel_rfl) (mL_cells _) ?_)
          intro w5 hA5 hU5
          have HA5 := Lib.hid (hA5.of_eq (mP_twice lin_back p))
          have HB5 := Lib.hid (step_upd HB4.out hU5 hle)
          clear hA5 hU5 HA4 HB4
          go_wp2
          go_round
          case rel => exact ⟨t, 2 * p, l / 2, rfl, by go_num, ht, by omega, HI2, HA5, HB5⟩
          case measure => simp [intOf]; omega
        case inr =>
          have HI2 := Lib.hid (HI.out.trans (jump_odd backN p l t hm).symm)
          clear hm HI
          go_wp2_with (with_reducible refine wpList_load_at rfl 193 (.tmp 5) rfl w1.heap.size (by kernel_rfl) 193 (mL (mP backN p)) HA.out _ Try.underlying193 rfl (by rw [mL_len]; kernel_rfl) ?_)
          refine (of_any (mP backN p) t _ ht (mP_lt lin_back p)).mono ?_
          rintro e w3 ⟨rfl, hb3⟩
          rw [mP_of lin_back p t ht]
          have ht3 := iter_lt lin_back p t ht
          have HA3 := Lib.hid (HA.out.below hb3 HA.out.lt)
          have HB3 := Lib.hid (step_below HB.out hb3)
          clear hb3 HA HB
          go_wp2_with (with_reducible refine wpList_load_at rfl 193 (.tmp 5) rfl w1.heap.size (by kernel_rfl) 193 (mL (mP backN p)) HA3.out _ Try.underlying193 rfl (by rw [mL_len]; kernel_rfl) ?_)
          refine (twice_any (mP backN p) _ (mP_lt lin_back p)).mono ?_
          rintro e w4 ⟨rfl, hb4⟩
          have HA4 := Lib.hid (HA3.out.below hb4 HA3.out.lt)
          have HB4 := Lib.hid (step_below HB3.out hb4)
          clear hb4 HA3 HB3
          go_wp2_with (with_reducible refine wpList_store_row rfl 193 (.tmp 5) (.tmp 28) rfl rfl w1.heap.size (by kernel_rfl) (mL fun i => ofK (mP backN p) (mP backN p i) 18) (by kernel_rfl) 193 (mL (mP backN p)) HA4.out (by rw [mL_len, mL_len]) (by rw [mL_len]; kernel_rfl) (mL_cells _) ?_)
          intro w5 hA5 hU5
          have HA5 := Lib.hid (hA5.of_eq (mP_twice lin_back p))
          have HB5 := Lib.hid (step_upd HB4.out hU5 hle)
          clear hA5 hU5 HA4 HB4
          go_wp2
          go_round
          case rel => exact ⟨iter backN p t, 2 * p, l / 2, rfl, by go_num, ht3, by omega, HI2, HA5, HB5⟩
          case measure => simp [intOf]; omega
      · obtain rfl : l = 0 := by omega
        have hI := HI.out
        rw [Nat.mul_zero] at hI
        go_wp2
        go_ret
        exact ⟨by rw [hI]; rfl, HB.out⟩
  · obtain ⟨l0, hl0⟩ : ∃ l0 : Nat, l0 = n.toNat := ⟨_, rfl⟩
    obtain rfl : n = (l0 : Int) := by omega
    have hL : l0 ≤ 9223372036854775808 := by omega
    have hn2 : (l0 : Int) % 18446744073709551616 = (l0 : Int) := by omega
    have hW := Lib.hid (HJ.out l0 hl0 (by omega))
    rw [hW.out]
    clear hl0 hneg
    go_enter Try.func114, Try.ntmps114
    go_wp2_with fail
    refine (one_Next w).mono ?_
    rintro e w1 ⟨rfl, hB1⟩
    have hA1 : At (w1.alloc (.cells #[.int .u32 0, .int .u32 0, .int .u32 0, .int .u32 0, .int .u32 0, .int .u32 0, .int .u32 0, .int .u32 0, .int .u32 0, .int .u32 0, .int .u32 0, .int .u32 0, .int .u32 0, .int .u32 0, .int .u32 0, .int .u32 0, .int .u32 0, .int .u32 0] 193)) w1.heap.size 193 (mL (part (fun i => nextN (2 ^ i)) 0)) := (At.new w1 #[.int .u32 0, .int .u32 0, .int .u32 0, .int .u32 0, .int .u32 0, .int .u32 0, .int .u32 0, .int .u32 0, .int .u32 0, .int .u32 0, .int .u32 0, .int .u32 0, .int .u32 0, .int .u32 0, .int .u32 0, .int .u32 0, .int .u32 0, .int .u32 0] 193).of_eq (mL_zero _)
    have hb1 : Below w.heap.size w (w1.alloc (.cells #[.int .u32 0, .int .u32 0, .int .u32 0, .int .u32 0, .int .u32 0, .int .u32 0, .int .u32 0, .int .u32 0, .int .u32 0, .int .u32 0, .int .u32 0, .int .u32 0, .int .u32 0, .int .u32 0, .int .u32 0, .int .u32 0, .int .u32 0, .int .u32 0] 193)) := hB1.alloc hB1.size _
    have hle := hB1.size
    go_wp2_with (with_reducible refine wpList_store_row rfl 193 (.tmp 5) (.tmp 9) rfl rfl w1.heap.size (by kernel_rfl) (mL fun i => nextN (2 ^ i)) (by kernel_rfl) 193 (mL (part (fun i => nextN (2 ^ i)) 0)) hA1 (by rw [mL_len, mL_len]) (by rw [mL_len]; kernel_rfl) (mL_cells _) ?_)
    intro w2 hA2 hU2
    have HA2 := Lib.hid (hA2.of_eq (mP_one nextN))
    have HB2 := Lib.hid (step_upd hb1 hU2 hle)
    clear hA2 hU2 hA1 hb1 hB1
    go_wp2
    go_loopw [0, 6] (fun s left wr => ∃ t p l : Nat, s = .int .u32 t ∧ left = .int .u64 l ∧ t < 262144 ∧ l ≤ 9223372036854775808 ∧ Hid (iter nextN l0 t0 = iter nextN (p * l) t) ∧ Hid (At wr w1.heap.size 193 (mL (mP nextN p))) ∧ Hid (Below w.heap.size w wr)) (fun _ left _ => (intOf left).toNat)
    case atStart => exact ⟨t0, 1, l0, rfl, by first | rfl | rw [hn4], ht, hL, Lib.hid (by rw [Nat.one_mul]), HA2, HB2⟩
    case round =>
      obtain ⟨t, p, l, rfl, rfl, ht, hl, HI, HA, HB⟩ := hrel
      by_cases hpos : 0 < l
      · have ho := u64_odd l (by omega)
        rcases Nat.mod_two_eq_zero_or_one l with hm | hm
        all_goals rw [hm] at ho
        case inl =>
          have HI2 := Lib.hid (HI.out.trans (jump_even nextN p l t hm).symm)
          clear hm HI
          go_wp2_with (with_reducible refine wpList_load_at rfl 193 (.tmp 5) rfl w1.heap.size (by kernel_rfl) 193 (mL (mP nextN p)) HA.out _ Try.underlying193 rfl (by rw [mL_len]; kernel_rfl) ?_)
          refine (twice_any (mP nextN p) _ (mP_lt lin_next p)).mono ?_
          rintro e w4 ⟨rfl, hb4⟩
          have HA4 := Lib.hid (HA.out.below hb4 HA.out.lt)
          have HB4 := Lib.hid (step_below HB.out hb4)
          clear hb4 HA HB
          go_wp2_with (with_reducible refine wpList_store_row rfl 193 (.tmp 5) (.tmp 28) rfl rfl w1.heap.size (by kernel_rfl) (mL fun i => ofK (mP nextN p) (mP nextN p i) 18) (by kernel_rfl) 193 (mL (mP nextN p)) HA4.out (by rw [mL_len, mL_len]) (by rw [mL_len]; kernel_rfl) (mL_cells _) ?_)
          intro w5 hA5 hU5
          have HA5 := Lib.hid (hA5.of_eq (mP_twice lin_next p))
          have HB5 := Lib.hid (step_upd HB4.out hU5 hle)
          clear hA5 hU5 HA4 HB4
          go_wp2
          go_round
          case rel => exact ⟨t, 2 * p, l / 2, rfl, by go_num, ht, by omega, HI2, HA5, HB5⟩
          case measure => simp [intOf]; omega
        case inr =>
          have HI2 := Lib.hid (HI.out.trans (jump_odd nextN p l t hm).symm)
          clear hm HI
          go_wp2_with (with_reducible refine wpList_load_at rfl 193 (.tmp 5) rfl w1.heap.size (by kernel_rfl) 193 (mL (mP nextN p)) HA.out _ Try.underlying193 rfl (by rw [mL_len]; kernel_rfl) ?_)
          refine (of_any (mP nextN p) t _ ht (mP_lt lin_next p)).mono ?_
          rintro e w3 ⟨rfl, hb3⟩
          rw [mP_of lin_next p t ht]
          have ht3 := iter_lt lin_next p t ht
          have HA3 := Lib.hid (HA.out.below hb3 HA.out.lt)
          have HB3 := Lib.hid (step_below HB.out hb3)
          clear hb3 HA HB
          go_wp2_with (with_reducible refine wpList_load_at rfl 193 (.tmp 5) rfl w1.heap.size (by kernel_rfl) 193 (mL (mP nextN p)) HA3.out _ Try.underlying193 rfl (by rw [mL_len]; kernel_rfl) ?_)
          refine (twice_any (mP nextN p) _ (mP_lt lin_next p)).mono ?_
          rintro e w4 ⟨rfl, hb4⟩
          have HA4 := Lib.hid (HA3.out.below hb4 HA3.out.lt)
          have HB4 := Lib.hid (step_below HB3.out hb4)
          clear hb4 HA3 HB3
          go_wp2_with (with_reducible refine wpList_store_row rfl 193 (.tmp 5) (.tmp 28) rfl rfl w1.heap.size (by kernel_rfl) (mL fun i => ofK (mP nextN p) (mP nextN p i) 18) (by kernel_rfl) 193 (mL (mP nextN p)) HA4.out (by rw [mL_len, mL_len]) (by rw [mL_len]; kernel_rfl) (mL_cells _) ?_)
          intro w5 hA5 hU5
          have HA5 := Lib.hid (hA5.of_eq (mP_twice lin_next p))
          have HB5 := Lib.hid (step_upd HB4.out hU5 hle)
          clear hA5 hU5 HA4 HB4
          go_wp2
          go_round
          case rel => exact ⟨iter nextN p t, 2 * p, l / 2, rfl, by go_num, ht3, by omega, HI2, HA5, HB5⟩
          case measure => simp [intOf]; omega
      · obtain rfl : l = 0 := by omega
        have hI := HI.out
        rw [Nat.mul_zero] at hI
        go_wp2
        go_ret
        exact ⟨by rw [hI]; rfl, HB.out⟩
end Go.Proofs.Ytgkbpdcedighcac
