/-
  The walks of mix: One, turned, Turned, Middle.
-/
import Derived.Test.YtgkbpdcedighcacMixT
namespace Go.Proofs.Ytgkbpdcedighcac
open Go.RowKit Go.Sort

set_option maxRecDepth 100000 in
theorem One_any (v : Vo) (l r : Nat) (w : World) (hv : v.Ok) (hl : l < 256) (hr : r < 256) :
    Calls Try.prog 22 #[.agg v.cs.toArray, .int .u8 (l : Int), .int .u8 (r : Int)] w fun e w' => e = .returned (.tuple #[.int .i64 (v.l l), .int .i64 (v.r r)]) ∧ Below w.heap.size w w' := by
  have b1 := sideZ_bd v.lv v.vo v.le l
  have b2 := sideZ_bd v.lv v.vo v.ri r
  have hsl : sumZ (fun i => ((fun _ => v) i : Vo).l l) 1 = v.l l := by simp [sumZ]
  have hsr : sumZ (fun i => ((fun _ => v) i : Vo).r r) 1 = v.r r := by simp [sumZ]
  rw [show sideZ v.lv v.vo v.le l = v.l l from rfl] at b1
  rw [show sideZ v.lv v.vo v.ri r = v.r r from rfl] at b2
  have HSL := Lib.hid hsl
  have HSR := Lib.hid hsr
  have HOK := Lib.hid hv
  clear hsl hsr hv
  generalize v.l l = m1 at *
  generalize v.r r = m2 at *
  have hcs : v.cs.toArray = #[.int .u8 (v.lv : Int), .int .u8 (v.vo : Int), .int .u8 (v.le : Int), .int .u8 (v.ri : Int)] := rfl
  rw [hcs]
  clear hcs
  go_enter Try.func22, Try.ntmps22
  go_wp2_with fail
  refine allocs2 (F := fun w => Calls _ _ _ w _) ?_
  intro w1 _ hA2 hB1 _
  have hV : Vos w1 (some ⟨w.heap.size + 1, 0, none⟩) 1 (fun _ => v) := ⟨fun i hi => ⟨_, _, rfl, hA2.lt, fun j u hu => by
    obtain rfl : i = 0 := by omega
    rw [show (0 + 0 * 4 + j) = j by omega]
    exact hA2.cell j hu⟩, fun _ _ => HOK.out⟩
  have ht := together_any l r _ 1 1 (fun _ => v) w1 hV hl hr (by omega)
  rw [HSL.out, HSR.out] at ht
  clear hA2
  refine ht.mono ?_
  rintro e w2 ⟨⟨z, rfl, hz⟩, hb2⟩
  have hB2 := step_below hB1 hb2
  clear ht hV hB1 hb2
  go_wp2_with fail
  refine (sides_any z m1 m2 w2 hz (by omega) (by omega)).mono ?_
  rintro e _ ⟨rfl, rfl⟩
  go_wp2
  go_ret2
  exact ⟨rfl, hB2⟩

theorem flip_mod (b : Nat) : (b ^^^ 9223372036854775808) % 9223372036854775808 = b % 9223372036854775808 := by
  have h := Nat.xor_mod_two_pow (a := b) (b := 9223372036854775808) (n := 63)
  rw [show (2 : Nat) ^ 63 = 9223372036854775808 by decide, Nat.mod_self, Nat.xor_zero] at h
  exact h
theorem flip_div (b : Nat) : (b ^^^ 9223372036854775808) / 9223372036854775808 % 2 = 1 - b / 9223372036854775808 % 2 := by
  have h := Nat.shiftRight_xor_distrib (a := b) (b := 9223372036854775808) (i := 63)
  simp only [Nat.shiftRight_eq_div_pow, show (2 : Nat) ^ 63 = 9223372036854775808 by decide, Nat.div_self (show 0 < 9223372036854775808 by decide)] at h
  rw [h]
  have h2 := Nat.xor_mod_two_pow (a := b / 9223372036854775808) (b := 1) (n := 1)
  simp only [Nat.pow_one] at h2
  rw [h2]
  rcases Nat.mod_two_eq_zero_or_one (b / 9223372036854775808) with h3 | h3 <;> rw [h3] <;> rfl

theorem read_flip (b : Nat) : Ieee.double.read (b ^^^ 9223372036854775808) = (Ieee.double.read b).opposite := by
  have hs : Ieee.double.signWeight = 9223372036854775808 := by decide
  have hneg : ((b ^^^ 9223372036854775808) / Ieee.double.signWeight % 2 == 1) = !(b / Ieee.double.signWeight % 2 == 1) := by
    rw [hs, flip_div]
    rcases Nat.mod_two_eq_zero_or_one (b / 9223372036854775808) with h3 | h3 <;> rw [h3] <;> rfl
  have hmod : (b ^^^ 9223372036854775808) % Ieee.double.signWeight = b % Ieee.double.signWeight := by rw [hs, flip_mod]
  unfold Ieee.Format.read
  simp only [hneg, hmod]
  split
  · rfl
  · split
    · rfl
    · split <;> rfl

theorem neg_is {b : Nat} {n : Int} (h : F64.Is b n) : F64.Is (Op.negFloat .f64 b) (-n) := by
  have e : Op.negFloat .f64 b = b ^^^ 9223372036854775808 := rfl
  unfold F64.Is at h ⊢
  rw [e, read_flip]
  exact F64.std_opposite h

theorem neg_run (b : Nat) (w : World) : (Op.unary UnOp.neg (.float .f64 b)).run Try.prog w = .ok (.float .f64 (Op.negFloat .f64 b)) w := rfl

theorem turned_any (z : Value) (m n : Int) (w : World) (h : CZ z m n) (hm : m.natAbs < 4503599627370496) (hn : n.natAbs < 4503599627370496) :
    Calls Try.prog 75 #[z] w fun e w' => (∃ v, e = .returned v ∧ CZ v n m) ∧ w = w' := by
  obtain ⟨a, b, rfl, ha, hb⟩ := h
  have hr := neg_run b
  have hi := neg_is hb
  generalize Op.negFloat .f64 b = nb at *
  obtain ⟨re, im, i1, i2, hrun⟩ := cmul_fact (P := Try.prog) is_zero is_one ha hi (by omega) (by omega) (by omega) (by omega)
  have j1 : F64.Is re n := by rw [show n = 0 * m - 1 * -n by omega]; exact i1
  have j2 : F64.Is im m := by rw [show m = 0 * -n + 1 * m by omega]; exact i2
  clear i1 i2
  go_enter Try.func75, Try.ntmps75
  go_wp2
  go_ret
  exact ⟨⟨_, rfl, _, _, rfl, j1, j2⟩, rfl⟩

set_option maxRecDepth 100000 in
theorem Turned_any (l r : Nat) (a : Option Addr) (n cap : Nat) (V : Nat → Vo) (w : World) (hV : Vos w a n V) (hl : l < 256) (hr : r < 256) (hn : n ≤ 1000000) :
    Calls Try.prog 31 #[.slice a n cap, .int .u8 (l : Int), .int .u8 (r : Int)] w fun e w' => e = .returned (.tuple #[.int .i64 (sumZ (fun i => (V i).r r) n), .int .i64 (sumZ (fun i => (V i).l l) n)]) ∧ Below w.heap.size w w' := by
  have b1 := sumZ_bd (fun i => (V i).l l) n fun i _ => sideZ_bd _ _ _ _
  have b2 := sumZ_bd (fun i => (V i).r r) n fun i _ => sideZ_bd _ _ _ _
  have h := together_any l r a n cap V w hV hl hr hn
  clear hV
  generalize sumZ (fun i => (V i).l l) n = m1 at *
  generalize sumZ (fun i => (V i).r r) n = m2 at *
  go_enter Try.func31, Try.ntmps31
  go_wp2_with fail
  refine h.mono ?_
  rintro e w1 ⟨⟨v, rfl, hv⟩, hB1⟩
  go_wp2_with fail
  refine (turned_any v m1 m2 w1 hv (by omega) (by omega)).mono ?_
  rintro e _ ⟨⟨u, rfl, hu⟩, rfl⟩
  go_wp2_with fail
  refine (sides_any u m2 m1 w1 hu (by omega) (by omega)).mono ?_
  rintro e _ ⟨rfl, rfl⟩
  go_wp2
  go_ret2
  exact ⟨rfl, hB1⟩

theorem i64_and1 (n : Int) : bits .and .i64 n 1 = n % 2 := by
  have h1 : (BitVec.ofInt 64 1).toNat = 2 ^ 1 - 1 := by decide
  have key : (BitVec.ofInt 64 n &&& BitVec.ofInt 64 1).toNat = (n % ((2 ^ 64 : Nat) : Int)).toNat % 2 ^ 1 := by
    rw [BitVec.toNat_and, BitVec.toNat_ofInt, h1, Nat.and_two_pow_sub_one_eq_mod]
  show IntKind.i64.wrap ((BitVec.ofInt 64 n &&& BitVec.ofInt 64 1).toNat : Nat) = n % 2
  rw [key, IntKind.wrap_i64]
  omega

def midBad (l r : Int) : Prop := l < -1099511627776 ∨ 1099511627776 < l ∨ r < -1099511627776 ∨ 1099511627776 < r ∨ l % 2 ≠ r % 2

set_option maxRecDepth 100000 in
set_option maxHeartbeats 2000000 in
theorem Middle_bad (l r : Int) (w : World) (h : midBad l r) :
    Calls Try.prog 30 #[.int .i64 l, .int .i64 r] w fun e w' => e = .returned (.tuple #[.int .i64 0, .int .i64 0, .bool false]) ∧ w = w' := by
  have a1 := i64_and1 l
  have a2 := i64_and1 r
  unfold midBad at h
  by_cases h1 : l < -1099511627776
  · have d1 : decide (l < -1099511627776) = true := decide_eq_true h1
    go_enter Try.func30, Try.ntmps30
    go_wp2
    go_ret3
    exact ⟨rfl, rfl⟩
  · have d1 : decide (l < -1099511627776) = false := decide_eq_false h1
    by_cases h2 : 1099511627776 < l
    · have d2 : decide (1099511627776 < l) = true := decide_eq_true h2
      go_enter Try.func30, Try.ntmps30
      go_wp2
      go_ret3
      exact ⟨rfl, rfl⟩
    · have d2 : decide (1099511627776 < l) = false := decide_eq_false h2
      by_cases h3 : r < -1099511627776
      · have d3 : decide (r < -1099511627776) = true := decide_eq_true h3
        go_enter Try.func30, Try.ntmps30
        go_wp2
        go_ret3
        exact ⟨rfl, rfl⟩
      · have d3 : decide (r < -1099511627776) = false := decide_eq_false h3
        by_cases h4 : 1099511627776 < r
        · have d4 : decide (1099511627776 < r) = true := decide_eq_true h4
          go_enter Try.func30, Try.ntmps30
          go_wp2
          go_ret3
          exact ⟨rfl, rfl⟩
        · have d4 : decide (1099511627776 < r) = false := decide_eq_false h4
          have h5 : ((l % 2) != (r % 2)) = true := by rw [bne_iff_ne]; omega
          have p1 : 0 ≤ l % 2 ∧ l % 2 < 2 := by omega
          have p2 : 0 ≤ r % 2 ∧ r % 2 < 2 := by omega
          generalize l % 2 = x at *
          generalize r % 2 = y at *
          go_enter Try.func30, Try.ntmps30
          go_wp2
          go_ret3
          exact ⟨rfl, rfl⟩

set_option maxRecDepth 100000 in
set_option maxHeartbeats 2000000 in
theorem Middle_good (l r : Int) (w : World) (h : ¬ midBad l r) :
    Calls Try.prog 30 #[.int .i64 l, .int .i64 r] w fun e w' => e = .returned (.tuple #[.int .i64 ((l + r) / 2), .int .i64 (l - (l + r) / 2), .bool true]) ∧ w = w' := by
  have a1 := i64_and1 l
  have a2 := i64_and1 r
  unfold midBad at h
  have hl : -1099511627776 ≤ l ∧ l ≤ 1099511627776 := by omega
  have hr : -1099511627776 ≤ r ∧ r ≤ 1099511627776 := by omega
  have hp : l % 2 = r % 2 := by omega
  have d1 : decide (l < -1099511627776) = false := by rw [decide_eq_false_iff_not]; omega
  have d2 : decide (1099511627776 < l) = false := by rw [decide_eq_false_iff_not]; omega
  have d3 : decide (r < -1099511627776) = false := by rw [decide_eq_false_iff_not]; omega
  have d4 : decide (1099511627776 < r) = false := by rw [decide_eq_false_iff_not]; omega
  have ht : (l + r).tdiv 2 = (l + r) / 2 := Int.tdiv_eq_ediv_of_dvd (by omega)
  have HM : Hid (l - (l + r) / 2 = l - (l + r) / 2 ∧ -1099511627776 ≤ (l + r) / 2 ∧ (l + r) / 2 ≤ 1099511627776) := Lib.hid ⟨rfl, by omega⟩
  rw [← hp] at a2
  clear h hp
  generalize l % 2 = x at *
  have il := intf_is l (by omega)
  have ir := intf_is r (by omega)
  have hcz : CZ (.complex .f64 (floatOfInt .f64 l) (floatOfInt .f64 r)) l r := ⟨_, _, rfl, il, ir⟩
  have hsum : -1099511627776 * 2 ≤ l + r ∧ l + r ≤ 1099511627776 * 2 := by omega
  go_enter Try.func30, Try.ntmps30
  go_wp2_with fail
  refine (both_any l r w).mono ?_
  rintro e _ ⟨rfl, rfl⟩
  go_wp2_with fail
  refine (turned_any _ l r w hcz (by omega) (by omega)).mono ?_
  rintro e _ ⟨⟨u, rfl, hu⟩, rfl⟩
  obtain ⟨ua, ub, rfl, hua, hub⟩ := hu
  obtain ⟨re, im, i1, i2, hrun⟩ := cadd_fact (P := Try.prog) il ir hua hub (by omega) (by omega)
  have f1 := fint_fact (P := Try.prog) i1 (by omega) 131 3 (by kernel_rfl) Try.underlying3 w
  generalize floatOfInt .f64 l = fl at *
  generalize floatOfInt .f64 r = fr at *
  have hb := HM.out.2
  generalize hmd : (l + r) / 2 = md at *
  have HMD := Lib.hid hmd
  clear hmd
  go_wp2
  go_ret3
  exact ⟨by rw [HMD.out]; rfl, rfl⟩
end Go.Proofs.Ytgkbpdcedighcac
