/-
  Bytes as numbers, and the walks of the package flags.
-/
import Derived.Test.YtgkbpdcedighcabRows
import Derived.WalkKit
import Derived.Test.YtgkbpdcedighcabRegion
namespace Go.Proofs.Ytgkbpdcedighcab
open Go.RowKit Go.Sort

theorem ofInt_u8 (a : Nat) (ha : a < 256) : (BitVec.ofInt 8 (a : Int)).toNat = a := by
  simp; omega
theorem wrap_u8_nat (a : Nat) (ha : a < 256) : IntKind.u8.wrap (a : Int) = a := by simp [IntKind.wrap, IntKind.signed, IntKind.bits]; omega
theorem u8_and (a b : Nat) (ha : a < 256) (hb : b < 256) : bits .and .u8 (a : Int) (b : Int) = ((a &&& b : Nat) : Int) := by
  have hx : a &&& b < 2 ^ 8 := Nat.and_lt_two_pow _ (by omega)
  show IntKind.u8.wrap ((BitVec.ofInt 8 (a : Int) &&& BitVec.ofInt 8 (b : Int)).toNat : Int) = _
  rw [BitVec.toNat_and, ofInt_u8 a ha, ofInt_u8 b hb, wrap_u8_nat _ (by omega)]
theorem u8_or (a b : Nat) (ha : a < 256) (hb : b < 256) : bits .or .u8 (a : Int) (b : Int) = ((a ||| b : Nat) : Int) := by
  have hx : a ||| b < 2 ^ 8 := Nat.or_lt_two_pow (by omega) (by omega)
  show IntKind.u8.wrap ((BitVec.ofInt 8 (a : Int) ||| BitVec.ofInt 8 (b : Int)).toNat : Int) = _
  rw [BitVec.toNat_or, ofInt_u8 a ha, ofInt_u8 b hb, wrap_u8_nat _ (by omega)]
theorem u8_xor (a b : Nat) (ha : a < 256) (hb : b < 256) : bits .xor .u8 (a : Int) (b : Int) = ((a ^^^ b : Nat) : Int) := by
  have hx : a ^^^ b < 2 ^ 8 := Nat.xor_lt_two_pow (by omega) (by omega)
  show IntKind.u8.wrap ((BitVec.ofInt 8 (a : Int) ^^^ BitVec.ofInt 8 (b : Int)).toNat : Int) = _
  rw [BitVec.toNat_xor, ofInt_u8 a ha, ofInt_u8 b hb, wrap_u8_nat _ (by omega)]
theorem u8_not (a b : Nat) (ha : a < 256) (hb : b < 256) : bits .andNot .u8 (a : Int) (b : Int) = ((a &&& (255 - b) : Nat) : Int) := by
  have hx : a &&& (255 - b) < 2 ^ 8 := Nat.and_lt_two_pow _ (by omega)
  show IntKind.u8.wrap ((BitVec.ofInt 8 (a : Int) &&& ~~~ BitVec.ofInt 8 (b : Int)).toNat : Int) = _
  rw [BitVec.toNat_and, BitVec.toNat_not, ofInt_u8 a ha, ofInt_u8 b hb, show 2 ^ 8 - 1 - b = 255 - b by omega, wrap_u8_nat _ (by omega)]

def isN (p f : Nat) : Bool := p &&& f != 0
def setN (p f : Nat) (on : Bool) : Nat := if on then p ||| f else p &&& (255 - f)
def resN (p v : Nat) : Nat := setN (setN p 128 (isN v 128)) 2 (v == 0)

theorem setN_lt (p f : Nat) (on : Bool) (hp : p < 256) (hf : f < 256) : setN p f on < 256 := by
  unfold setN
  have h1 : p ||| f < 2 ^ 8 := Nat.or_lt_two_pow (by omega) (by omega)
  have h2 : p &&& (255 - f) < 2 ^ 8 := Nat.and_lt_two_pow _ (by omega)
  cases on <;> simp <;> omega
theorem resN_lt (p v : Nat) (hp : p < 256) : resN p v < 256 := setN_lt _ _ _ (setN_lt _ _ _ hp (by omega)) (by omega)
theorem set1_par (p : Nat) (on : Bool) (hp : p < 256) : isN (setN p 1 on) 1 = on := by
  have : ∀ p : Fin 256, ∀ on : Bool, isN (setN p.val 1 on) 1 = on := by decide +kernel
  exact this ⟨p, hp⟩ on
theorem set2_par (p : Nat) (on : Bool) (hp : p < 256) : isN (setN p 2 on) 1 = isN p 1 := by
  have : ∀ p : Fin 256, ∀ on : Bool, isN (setN p.val 2 on) 1 = isN p.val 1 := by decide +kernel
  exact this ⟨p, hp⟩ on
theorem set128_par (p : Nat) (on : Bool) (hp : p < 256) : isN (setN p 128 on) 1 = isN p 1 := by
  have : ∀ p : Fin 256, ∀ on : Bool, isN (setN p.val 128 on) 1 = isN p.val 1 := by decide +kernel
  exact this ⟨p, hp⟩ on
theorem res_par (p v : Nat) (hp : p < 256) : isN (resN p v) 1 = isN p 1 := by
  rw [resN, set2_par _ _ (setN_lt _ _ _ hp (by omega)), set128_par _ _ hp]

theorem FIs_any (p f : Nat) (w : World) (hp : p < 256) (hf : f < 256) : Calls Try.prog 26 #[.int .u8 (p : Int), .int .u8 (f : Int)] w fun e w' => e = .returned (.bool (isN p f)) ∧ w = w' := by
  have e := u8_and p f hp hf
  have e2 : ((p &&& f : Nat) : Int) = 0 ↔ isN p f = false := by unfold isN; simp
  cases hb : isN p f
  · rw [e2.2 hb] at e
    clear e2 hb
    go_enter Try.func26, Try.ntmps26
    go_wp2
    go_ret
    exact ⟨rfl, rfl⟩
  · have e3 : decide (((p &&& f : Nat) : Int) = 0) = false := by rw [decide_eq_false_iff_not, e2, hb]; simp
    rw [← e] at e3
    clear e2 hb e
    go_enter Try.func26, Try.ntmps26
    go_wp2
    go_ret
    exact ⟨by simp_all, rfl⟩

theorem FSet_any (p f : Nat) (on : Bool) (w : World) (hp : p < 256) (hf : f < 256) : Calls Try.prog 80 #[.int .u8 (p : Int), .int .u8 (f : Int), .bool on] w fun e w' => e = .returned (.int .u8 (setN p f on : Nat)) ∧ w = w' := by
  have e1 := u8_or p f hp hf
  have e2 := u8_not p f hp hf
  cases on
  · go_enter Try.func80, Try.ntmps80
    go_wp2
    go_ret
    exact ⟨rfl, rfl⟩
  · go_enter Try.func80, Try.ntmps80
    go_wp2
    go_ret
    exact ⟨rfl, rfl⟩

theorem FRes_any (p v : Nat) (w : World) (hp : p < 256) (hv : v < 256) : Calls Try.prog 81 #[.int .u8 (p : Int), .int .u8 (v : Int)] w fun e w' => e = .returned (.int .u8 (resN p v : Nat)) ∧ w = w' := by
  have h1 := setN_lt p 128 (isN v 128) hp (by omega)
  go_enter Try.func81, Try.ntmps81
  go_wp2_with fail
  refine (FIs_any v 128 w hv (by omega)).mono ?_
  rintro e _ ⟨rfl, rfl⟩
  go_wp2_with fail
  refine (FSet_any p 128 _ w hp (by omega)).mono ?_
  rintro e _ ⟨rfl, rfl⟩
  go_wp2_with fail
  rw [show ((v : Int) == 0) = (v == 0) by cases v <;> rfl]
  refine (FSet_any _ 2 _ w h1 (by omega)).mono ?_
  rintro e _ ⟨rfl, rfl⟩
  go_wp2
  go_ret
  exact ⟨rfl, rfl⟩
end Go.Proofs.Ytgkbpdcedighcab
