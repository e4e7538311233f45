/-
  Complex numbers whose parts are whole: their operations as facts for a walk.
-/
import Derived.Test.YtgkbpdcedighcacF64
import Derived.Laws.ComplexArith
import Derived.Laws.FloatArith
import Derived.Laws.Cover2
import Derived.Laws.Cover3
import Derived.WalkKit
namespace Go.Proofs.Ytgkbpdcedighcac
open Go

/-- The value is the complex number m + n i. -/
def CZ (v : Value) (m n : Int) : Prop := ∃ a b, v = .complex .f64 a b ∧ F64.Is a m ∧ F64.Is b n

theorem is_zero : F64.Is 0 0 := F64.std_zero false
theorem is_one : F64.Is 4607182418800017408 1 := by
  have h := F64.nearest_is 1 (by decide)
  have e : Go.FloatKind.f64.nearest 1 = 4607182418800017408 := by decide +kernel
  rwa [e] at h
theorem is_mone : F64.Is 13830554455654793216 (-1) := by
  have h := F64.nearest_is (-1) (by decide)
  have e : Go.FloatKind.f64.nearest (-1) = 13830554455654793216 := by decide +kernel
  rwa [e] at h
theorem is_mzero : F64.Is 9223372036854775808 0 := F64.std_zero true

section
variable {P : Program}

theorem cmul_bits {a b c d : Nat} {m n p q : Int} (ha : F64.Is a m) (hb : F64.Is b n) (hc : F64.Is c p) (hd : F64.Is d q)
    (h1 : (m * p).natAbs < 4503599627370496) (h2 : (n * q).natAbs < 4503599627370496) (h3 : (m * q).natAbs < 4503599627370496) (h4 : (n * p).natAbs < 4503599627370496) :
    ∃ re im, cMulBits a b c d = some (re, im) ∧ F64.Is re (m * p - n * q) ∧ F64.Is im (m * q + n * p) := by
  obtain ⟨ac, e1, i1⟩ := F64.mul_is ha hc (by omega)
  obtain ⟨bd, e2, i2⟩ := F64.mul_is hb hd (by omega)
  obtain ⟨re, e3, i3⟩ := F64.sub_is i1 i2 (by omega)
  obtain ⟨ad, e4, i4⟩ := F64.mul_is ha hd (by omega)
  obtain ⟨bc, e5, i5⟩ := F64.mul_is hb hc (by omega)
  obtain ⟨im, e6, i6⟩ := F64.add_is i4 i5 (by omega)
  refine ⟨re, im, ?_, i3, i6⟩
  have g1 : floatBits .mul .f64 a c = some ac := e1
  have g2 : floatBits .mul .f64 b d = some bd := e2
  have g3 : floatBits .sub .f64 ac bd = some re := e3
  have g4 : floatBits .mul .f64 a d = some ad := e4
  have g5 : floatBits .mul .f64 b c = some bc := e5
  have g6 : floatBits .add .f64 ad bc = some im := e6
  simp only [cMulBits, g1, g2, g3, g4, g5, g6, Option.bind_some]

theorem cmul_fact {a b c d : Nat} {m n p q : Int} (ha : F64.Is a m) (hb : F64.Is b n) (hc : F64.Is c p) (hd : F64.Is d q)
    (h1 : (m * p).natAbs < 4503599627370496) (h2 : (n * q).natAbs < 4503599627370496) (h3 : (m * q).natAbs < 4503599627370496) (h4 : (n * p).natAbs < 4503599627370496) :
    ∃ re im, F64.Is re (m * p - n * q) ∧ F64.Is im (m * q + n * p) ∧ ∀ (t : TypeId) (w : World), (binOp .mul t (.complex .f64 a b) (.complex .f64 c d)).run P w = .ok (.complex .f64 re im) w := by
  obtain ⟨re, im, h, i3, i6⟩ := cmul_bits ha hb hc hd h1 h2 h3 h4
  exact ⟨re, im, i3, i6, fun t w => run_complex_mul w t a b c d re im h⟩

theorem cadd_fact {a b c d : Nat} {m n p q : Int} (ha : F64.Is a m) (hb : F64.Is b n) (hc : F64.Is c p) (hd : F64.Is d q)
    (h1 : (m + p).natAbs < 9007199254740992) (h2 : (n + q).natAbs < 9007199254740992) :
    ∃ re im, F64.Is re (m + p) ∧ F64.Is im (n + q) ∧ ∀ (t : TypeId) (w : World), (binOp .add t (.complex .f64 a b) (.complex .f64 c d)).run P w = .ok (.complex .f64 re im) w := by
  obtain ⟨re, e1, i1⟩ := F64.add_is ha hc h1
  obtain ⟨im, e2, i2⟩ := F64.add_is hb hd h2
  refine ⟨re, im, i1, i2, fun t w => run_complex_sum w .add (.inl rfl) t .f64 a b c d re im ?_⟩
  have g1 : floatBits .add .f64 a c = some re := e1
  have g2 : floatBits .add .f64 b d = some im := e2
  simp only [cSumBits, g1, g2, Option.bind_some]

/-- A whole float as an int. -/
theorem fint_fact {a : Nat} {n : Int} (ha : F64.Is a n) (hn : -9007199254740992 ≤ n ∧ n ≤ 9007199254740992) (src dst : TypeId) (hs : (P.underlying src).isSome = true) (hd : P.underlying dst = some (.int .i64)) (w : World) :
    (convert src dst (.float .f64 a)).run P w = .ok (.int .i64 n) w := by
  refine run_convert_float_int w src dst .f64 .i64 a n hs hd ?_
  unfold floatToIntVal
  rw [F64.toInt_is ha]
  have h1 : IntKind.min .i64 = -9223372036854775808 := by decide
  have h2 : IntKind.max .i64 = 9223372036854775807 := by decide
  simp only [h1, h2]
  rw [if_pos (by omega)]

/-- An int as a float. -/
theorem intf_is (n : Int) (h : n.natAbs < 9007199254740992) : F64.Is (floatOfInt .f64 n) n := F64.nearest_is n h

theorem feq_zero {a : Nat} {n : Int} (ha : F64.Is a n) : ((FloatKind.f64.format.order a 0) == some .eq) = decide (n = 0) := by
  have h := F64.order_is ha is_zero
  have h' : FloatKind.f64.format.order a 0 = some (compare n 0) := h
  rw [h']
  by_cases h0 : n = 0
  · subst h0; rfl
  · rw [decide_eq_false h0]
    cases hc : compare n 0
    · rfl
    · exact absurd (Int.compare_eq_eq.1 hc) h0
    · rfl
end

/-! The parts of (-i)^k. -/
def tI : Nat → Int × Int
  | 0 => (1, 0)
  | k + 1 => ((tI k).2, -(tI k).1)
theorem tI_add4 (k : Nat) : tI (k + 4) = tI k := by simp [tI]
theorem tI_mod (k : Nat) : tI (k % 4) = tI k := by
  induction k using Nat.strongRecOn with
  | _ k ih =>
    by_cases h : k < 4
    · rw [Nat.mod_eq_of_lt h]
    · rw [show k = (k - 4) + 4 by omega, tI_add4, Nat.add_mod_right, ih (k - 4) (by omega)]
theorem tI_lt (k : Nat) : (tI k).1.natAbs ≤ 1 ∧ (tI k).2.natAbs ≤ 1 := by
  induction k with
  | zero => decide
  | succ k ih => simp only [tI]; omega

/-- The words of (-i)^k. -/
def tB : Nat → Nat × Nat
  | 0 => (4607182418800017408, 0)
  | k + 1 => (cMulBits (tB k).1 (tB k).2 0 13830554455654793216).getD (0, 0)
theorem tB_is (k : Nat) : F64.Is (tB k).1 (tI k).1 ∧ F64.Is (tB k).2 (tI k).2 ∧ cMulBits (tB k).1 (tB k).2 0 13830554455654793216 = some (tB (k + 1)) := by
  induction k with
  | zero =>
    have hb := tI_lt 0
    obtain ⟨re, im, h, _, _⟩ := cmul_bits (m := (tI 0).1) (n := (tI 0).2) is_one is_zero is_zero is_mone (by simp) (by omega) (by omega) (by simp)
    refine ⟨is_one, is_zero, ?_⟩
    have e : tB 1 = (re, im) := by simp only [tB, h, Option.getD_some]
    rw [e]; exact h
  | succ k ih =>
    have hb := tI_lt k
    obtain ⟨re, im, h, i1, i2⟩ := cmul_bits ih.1 ih.2.1 is_zero is_mone (by simp) (by omega) (by omega) (by simp)
    have e : tB (k + 1) = (re, im) := by simp only [tB, h, Option.getD_some]
    have j1 : F64.Is (tB (k + 1)).1 (tI (k + 1)).1 := by rw [e]; simpa [tI] using i1
    have j2 : F64.Is (tB (k + 1)).2 (tI (k + 1)).2 := by rw [e]; simpa [tI] using i2
    have hb2 := tI_lt (k + 1)
    obtain ⟨re2, im2, h2, _, _⟩ := cmul_bits j1 j2 is_zero is_mone (by simp) (by omega) (by omega) (by simp)
    refine ⟨j1, j2, ?_⟩
    have e2 : tB (k + 1 + 1) = (re2, im2) := by
      show (cMulBits (tB (k + 1)).1 (tB (k + 1)).2 0 13830554455654793216).getD (0, 0) = (re2, im2)
      rw [h2]; rfl
    rw [e2]; exact h2
/-- The value (-i)^k. -/
def tV (k : Nat) : Value := .complex .f64 (tB (k % 4)).1 (tB (k % 4)).2
theorem tV_cz (k : Nat) : CZ (tV k) (tI k).1 (tI k).2 := ⟨_, _, rfl, by rw [← tI_mod k]; exact (tB_is _).1, by rw [← tI_mod k]; exact (tB_is _).2.1⟩
theorem tB_run {P : Program} (k : Nat) (t : TypeId) (w : World) : (binOp .mul t (.complex .f64 (tB k).1 (tB k).2) (.complex .f64 0 13830554455654793216)).run P w = .ok (.complex .f64 (tB (k + 1)).1 (tB (k + 1)).2) w :=
  run_complex_mul w t _ _ _ _ _ _ (tB_is k).2.2
end Go.Proofs.Ytgkbpdcedighcac
