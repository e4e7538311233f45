/-
  The walk of the law TopDecimals.
-/
import Derived.Test.YtgkbpdcedighcabDec
import Derived.Test.YtgkbpdcedighcabOpenS
namespace Go.Proofs.Ytgkbpdcedighcab
open Go.RowKit Go.Sort

set_option maxRecDepth 100000 in
set_option maxHeartbeats 2000000 in
theorem TopDecimals_walk (w : World) (a0 : Int) (ha0 : (Lit.int .u8 a0).wf = true) (b0 : Int) (hb0 : (Lit.int .u8 b0).wf = true) :
    Calls Try.prog 13 #[.int .u8 a0, .int .u8 b0] w fun e w' => e = .returned (.bool true) ∧ Below w.heap.size w w' := by
  obtain ⟨ha1, ha2⟩ := wf_bounds_u8 ha0
  obtain ⟨hb1, hb2⟩ := wf_bounds_u8 hb0
  obtain ⟨x, hx⟩ : ∃ s : Nat, a0 % 100 = (s : Int) := ⟨(a0 % 100).toNat, by omega⟩
  obtain ⟨y, hy⟩ : ∃ s : Nat, b0 % 100 = (s : Int) := ⟨(b0 % 100).toNat, by omega⟩
  have hxt : a0.tmod 100 = (x : Int) := by rw [Int.tmod_eq_emod_of_nonneg ha1]; exact hx
  have hyt : b0.tmod 100 = (y : Int) := by rw [Int.tmod_eq_emod_of_nonneg hb1]; exact hy
  have hx2 : x ≤ 99 := by omega
  have hy2 : y ≤ 99 := by omega
  obtain ⟨ah, al, hxa, h1, h2⟩ : ∃ ah al, x = 10 * ah + al ∧ ah ≤ 9 ∧ al ≤ 9 := ⟨x / 10, x % 10, by omega, by omega, by omega⟩
  obtain ⟨bh, bl, hyb, h3, h4⟩ : ∃ bh bl, y = 10 * bh + bl ∧ bh ≤ 9 ∧ bl ≤ 9 := ⟨y / 10, y % 10, by omega, by omega, by omega⟩
  obtain ⟨z, out, hz, hz2, ho⟩ : ∃ z out, x + y = 100 * out + z ∧ z ≤ 99 ∧ out ≤ 1 := ⟨(x + y) % 100, (x + y) / 100, by omega, by omega, by omega⟩
  obtain ⟨ch, cl, hzc, h5, h6⟩ : ∃ ch cl, z = 10 * ch + cl ∧ ch ≤ 9 ∧ cl ≤ 9 := ⟨z / 10, z % 10, by omega, by omega, by omega⟩
  have HA := Lib.hid (show 10 * ah + al + (10 * bh + bl) = 100 * out + (10 * ch + cl) by omega)
  have HS := Lib.hid (show 100 * out + (10 * ch + cl) = (10 * bh + bl) + (10 * ah + al) by omega)
  have HX := Lib.hid hxa
  have HY := Lib.hid hyb
  have HZ := Lib.hid hzc
  have HD := Lib.hid hz
  clear hxa hyb hzc hx hy ha0 hb0 hz
  go_enter Try.func13, Try.ntmps13
  go_wp2_with fail
  refine (Bit_any 1 0 w (by omega) (by omega)).mono ?_
  rintro e _ ⟨rfl, rfl⟩
  rw [show bitB 1 0 = true by decide +kernel]
  go_wp2_with fail
  refine (Pack_any x ah al w h1 h2 HX.out).mono ?_
  rintro e _ ⟨rfl, rfl⟩
  go_wp2_with fail
  refine (Pack_any y bh bl w h3 h4 HY.out).mono ?_
  rintro e _ ⟨rfl, rfl⟩
  go_wp2_with fail
  refine (Add_dec ah al bh bl ch cl out w h1 h2 h3 h4 h5 h6 HA.out).mono ?_
  rintro e _ ⟨⟨q, rfl, hq, hqc⟩, rfl⟩
  go_wp2_with fail
  refine (Sub_dec ch cl bh bl ah al out w h5 h6 h3 h4 h1 h2 HS.out).mono ?_
  rintro e _ ⟨⟨q2, rfl, hq2, hqc2⟩, rfl⟩
  go_wp2_with fail
  refine (Unpack_any z ch cl w h5 h6 HZ.out).mono ?_
  rintro e _ ⟨rfl, rfl⟩
  have hD := HD.out
  rcases (show out = 0 ∨ out = 1 by omega) with rfl | rfl
  · replace hqc : isN q 1 = false := hqc
    replace hqc2 : isN q2 1 = true := hqc2
    have e1 : (x : Int) + (y : Int) = (z : Int) := by omega
    have e3 : decide (99 < (z : Int)) = false := by rw [decide_eq_false_iff_not]; omega
    have e4 : decide ((z : Int) < 100) = true := by rw [decide_eq_true_eq]; omega
    have e2 : (z : Int).tmod 100 = (z : Int) := by rw [Int.tmod_eq_emod_of_nonneg (by omega)]; omega
    clear hD HA HS HX HY HZ HD ho
    go_wp2_with fail
    refine (FIs_any q 1 w hq (by omega)).mono ?_
    rintro e _ ⟨rfl, rfl⟩
    rw [hqc]
    go_wp2_with fail
    refine (FIs_any q2 1 w hq2 (by omega)).mono ?_
    rintro e _ ⟨rfl, rfl⟩
    rw [hqc2]
    go_wp2
    go_ret
    exact ⟨rfl, Below.refl _ _⟩
  · replace hqc : isN q 1 = true := hqc
    replace hqc2 : isN q2 1 = false := hqc2
    have e1 : (x : Int) + (y : Int) = 100 + (z : Int) := by omega
    have e3 : decide (99 < 100 + (z : Int)) = true := by rw [decide_eq_true_eq]; omega
    have e4 : decide (100 + (z : Int) < 100) = false := by rw [decide_eq_false_iff_not]; omega
    have e2 : (100 + (z : Int)).tmod 100 = (z : Int) := by rw [Int.tmod_eq_emod_of_nonneg (by omega)]; omega
    clear hD HA HS HX HY HZ HD ho
    go_wp2_with fail
    refine (FIs_any q 1 w hq (by omega)).mono ?_
    rintro e _ ⟨rfl, rfl⟩
    rw [hqc]
    go_wp2_with fail
    refine (FIs_any q2 1 w hq2 (by omega)).mono ?_
    rintro e _ ⟨rfl, rfl⟩
    rw [hqc2]
    go_wp2
    go_ret
    exact ⟨rfl, Below.refl _ _⟩
end Go.Proofs.Ytgkbpdcedighcab
