/-
  Whole numbers in binary64: a word that stands for an integer of fewer than 53 digits is added, subtracted, multiplied, compared and converted exactly.
-/
import Ieee.Arith
import GoSem.Core.Float
namespace F64
open Ieee

/-- The datum stands for the integer n. -/
def Std (d : Datum) (n : Int) : Prop := ∃ s m e, d = .number s m e ∧ e ≤ 0 ∧ signed s m 0 = n * 2 ^ (-e).toNat

/-- The word of binary64 stands for the integer n. -/
def Is (b : Nat) (n : Int) : Prop := Std (Ieee.double.read b) n

theorem signed_zero_up (s : Bool) (m : Nat) : signed s m 0 = if s then -(m : Int) else m := by
  unfold signed; simp

theorem signed_up (s : Bool) (m k : Nat) : signed s m k = signed s m 0 * 2 ^ k := by
  unfold signed
  cases s <;> simp [Nat.shiftLeft_eq, Int.neg_mul]

theorem natAbs_signed (s : Bool) (m : Nat) : (signed s m 0).natAbs = m := by
  rw [signed_zero_up]; cases s <;> simp

theorem Std.mag {s : Bool} {m : Nat} {e n : Int} (h : signed s m 0 = n * 2 ^ (-e).toNat) : m = n.natAbs * 2 ^ (-e).toNat := by
  have h1 := congrArg Int.natAbs h
  rw [natAbs_signed, Int.natAbs_mul, Int.natAbs_pow] at h1
  simpa using h1

theorem std_sum {d d' : Datum} {n n' : Int} (h : Std d n) (h' : Std d' n') : ∃ r, d.sum d' = some r ∧ Std r (n + n') := by
  obtain ⟨s, m, i, rfl, hi, hv⟩ := h
  obtain ⟨t, k, j, rfl, hj, hw⟩ := h'
  refine ⟨_, rfl, _, _, _, rfl, by omega, ?_⟩
  have e1 : signed s m (i - min i j).toNat = n * 2 ^ (-(min i j)).toNat := by
    rw [signed_up, hv, Int.mul_assoc, ← Int.pow_add]
    congr 2; omega
  have e2 : signed t k (j - min i j).toNat = n' * 2 ^ (-(min i j)).toNat := by
    rw [signed_up, hw, Int.mul_assoc, ← Int.pow_add]
    congr 2; omega
  rw [e1, e2, ← Int.add_mul]
  generalize (n + n') * 2 ^ (-(min i j)).toNat = v
  rw [signed_zero_up]
  by_cases h0 : v = 0
  · subst h0; simp
  · rw [if_neg h0]
    by_cases h1 : v < 0
    · simp [h1]; omega
    · simp [h1]; omega

theorem std_opposite {d : Datum} {n : Int} (h : Std d n) : Std d.opposite (-n) := by
  obtain ⟨s, m, i, rfl, hi, hv⟩ := h
  refine ⟨_, _, _, rfl, hi, ?_⟩
  rw [Int.neg_mul, ← hv, signed_zero_up, signed_zero_up]
  cases s <;> simp

theorem std_product {d d' : Datum} {n n' : Int} (h : Std d n) (h' : Std d' n') : ∃ r, d.product d' = some r ∧ Std r (n * n') := by
  obtain ⟨s, m, i, rfl, hi, hv⟩ := h
  obtain ⟨t, k, j, rfl, hj, hw⟩ := h'
  refine ⟨_, rfl, _, _, _, rfl, by omega, ?_⟩
  have e : (-(i + j)).toNat = (-i).toNat + (-j).toNat := by omega
  rw [e, Int.pow_add]
  have : n * n' * (2 ^ (-i).toNat * 2 ^ (-j).toNat) = (n * 2 ^ (-i).toNat) * (n' * 2 ^ (-j).toNat) := by
    simp only [Int.mul_assoc, Int.mul_left_comm]
  rw [this, ← hv, ← hw, signed_zero_up, signed_zero_up, signed_zero_up]
  cases s <;> cases t <;> simp [Int.neg_mul, Int.mul_neg]

theorem cut_nothing (s : Bool) (n : Nat) : Toward.even.cut s n 0 = n := by
  simp [Toward.cut, Nat.mod_one]

theorem cut_zero_nothing (s : Bool) (n : Nat) : Toward.zero.cut s n 0 = n := by
  simp [Toward.cut]

theorem cut_exact (way : Toward) (s : Bool) (a k : Nat) (ha : 0 < a) : way.cut s (a * 2 ^ k) k = a := by
  have hlog : k ≤ (a * 2 ^ k).log2 := by
    rw [Nat.le_log2 (by have := Nat.two_pow_pos k; exact Nat.ne_of_gt (Nat.mul_pos ha this))]
    exact Nat.le_mul_of_pos_left _ ha
  have hm : min k ((a * 2 ^ k).log2 + 2) = k := by omega
  have hp := Nat.two_pow_pos k
  simp only [Toward.cut, hm, Nat.shiftLeft_eq, Nat.one_mul, Nat.mul_div_cancel _ hp, Nat.mul_mod_left]
  cases way <;> simp

theorem std_toInt {d : Datum} {n : Int} (h : Std d n) : d.toInt .zero = some n := by
  obtain ⟨s, m, i, rfl, hi, hv⟩ := h
  have hm := Std.mag hv
  have hi0 : i.toNat = 0 := by omega
  have hn : Toward.zero.cut s (m <<< i.toNat) (-i).toNat = n.natAbs := by
    rw [hi0, Nat.shiftLeft_zero]
    by_cases h0 : n.natAbs = 0
    · rw [h0] at hm
      have : m = 0 := by simpa using hm
      subst this
      rw [h0]
      simp [Toward.cut]
    · rw [hm]
      exact cut_exact _ _ _ _ (by omega)
  simp only [Datum.toInt, Datum.integral, hn]
  congr 1
  rw [signed_zero_up]
  rw [signed_zero_up, hm] at hv
  have hp : (0 : Int) < 2 ^ (-i).toNat := by exact_mod_cast Nat.two_pow_pos _
  push_cast at hv
  generalize (2 : Int) ^ (-i).toNat = q at hv hp
  have hc : (if s = true then -(n.natAbs : Int) else (n.natAbs : Int)) * q = n * q := by
    rw [← hv]; cases s <;> simp [Int.neg_mul]
  exact Int.eq_of_mul_eq_mul_right (by omega) hc

theorem std_order {d d' : Datum} {n n' : Int} (h : Std d n) (h' : Std d' n') : d.order d' = some (compare n n') := by
  obtain ⟨s, m, i, rfl, hi, hv⟩ := h
  obtain ⟨t, k, j, rfl, hj, hw⟩ := h'
  have e1 : signed s m (i - min i j).toNat = n * 2 ^ (-(min i j)).toNat := by
    rw [signed_up, hv, Int.mul_assoc, ← Int.pow_add]
    congr 2; omega
  have e2 : signed t k (j - min i j).toNat = n' * 2 ^ (-(min i j)).toNat := by
    rw [signed_up, hw, Int.mul_assoc, ← Int.pow_add]
    congr 2; omega
  simp only [Datum.order, e1, e2]
  congr 1
  have hp : (0 : Int) < 2 ^ (-(min i j)).toNat := by exact_mod_cast Nat.two_pow_pos _
  generalize (2 : Int) ^ (-(min i j)).toNat = q at hp
  rcases Int.lt_trichotomy n n' with h | h | h
  · have : n * q < n' * q := Int.mul_lt_mul_of_pos_right h hp
    rw [Int.compare_eq_lt.2 h, Int.compare_eq_lt.2 this]
  · subst h; simp
  · have : n' * q < n * q := Int.mul_lt_mul_of_pos_right h hp
    rw [Int.compare_eq_gt.2 h, Int.compare_eq_gt.2 this]

theorem read_word (s : Bool) (r : Nat) (hr : r < 9218868437227405312) :
    double.read (double.word s r) = if r < 4503599627370496 then .number s r (-1074) else .number s (4503599627370496 + r % 4503599627370496) (-1074 + (r / 4503599627370496 - 1 : Nat)) := by
  have hs : double.signWeight = 9223372036854775808 := by decide
  have hb : double.binade = 4503599627370496 := by decide
  have hi : double.infRung = 9218868437227405312 := by decide
  have hl : double.leastPlace = -1074 := by decide
  have e1 : (double.word s r / double.signWeight % 2 == 1) = s := by
    unfold Format.word; rw [hs]; cases s
    · simp; omega
    · simp; omega
  have e2 : double.word s r % double.signWeight = r := by
    unfold Format.word; rw [hs]; cases s
    · simp; omega
    · simp; omega
  unfold Format.read
  simp only [e1, e2, hb, hi, hl, if_pos hr]

theorem log2_mul_two_pow (a k : Nat) (ha : a ≠ 0) : (a * 2 ^ k).log2 = a.log2 + k := by
  have hp := Nat.two_pow_pos k
  have h0 : a * 2 ^ k ≠ 0 := Nat.mul_ne_zero ha (by omega)
  have h1 : 2 ^ a.log2 ≤ a := Nat.log2_self_le ha
  have h2 : a < 2 ^ (a.log2 + 1) := Nat.lt_log2_self
  apply Nat.le_antisymm
  · have : (a * 2 ^ k).log2 < a.log2 + k + 1 := by
      rw [Nat.log2_lt h0]
      calc a * 2 ^ k < 2 ^ (a.log2 + 1) * 2 ^ k := Nat.mul_lt_mul_of_pos_right h2 hp
        _ = 2 ^ (a.log2 + k + 1) := by rw [← Nat.pow_add]; congr 1; omega
    omega
  · rw [Nat.le_log2 h0, Nat.pow_add]
    exact Nat.mul_le_mul_right _ h1

theorem std_kept (a k : Nat) (s : Bool) (ha0 : a ≠ 0) (hla : a.log2 ≤ 52) (i : Int) (hi' : i = -(k : Int)) :
    Toward.even.cut s ((a * 2 ^ k) <<< (i - ((a.log2 : Int) - 52)).toNat) (((a.log2 : Int) - 52) - i).toNat = a * 2 ^ (52 - a.log2) := by
  by_cases hc : k + a.log2 ≤ 52
  · have e1 : (i - ((a.log2 : Int) - 52)).toNat = 52 - a.log2 - k := by omega
    have e2 : (((a.log2 : Int) - 52) - i).toNat = 0 := by omega
    rw [e1, e2, cut_nothing, Nat.shiftLeft_eq, Nat.mul_assoc, ← Nat.pow_add]
    congr 2; omega
  · have e1 : (i - ((a.log2 : Int) - 52)).toNat = 0 := by omega
    have e2 : (((a.log2 : Int) - 52) - i).toNat = a.log2 + k - 52 := by omega
    rw [e1, e2, Nat.shiftLeft_zero]
    have e3 : a * 2 ^ k = (a * 2 ^ (52 - a.log2)) * 2 ^ (a.log2 + k - 52) := by
      rw [Nat.mul_assoc, ← Nat.pow_add]
      congr 2; omega
    rw [e3]
    exact cut_exact _ _ _ _ (Nat.mul_pos (by omega) (Nat.two_pow_pos _))

theorem norm_bounds (a : Nat) (ha0 : a ≠ 0) (hla : a.log2 ≤ 52) : 4503599627370496 ≤ a * 2 ^ (52 - a.log2) ∧ a * 2 ^ (52 - a.log2) < 9007199254740992 := by
  constructor
  · have h1 : 2 ^ a.log2 ≤ a := Nat.log2_self_le ha0
    have h2 : 2 ^ a.log2 * 2 ^ (52 - a.log2) = 2 ^ 52 := by rw [← Nat.pow_add]; congr 1; omega
    have h3 := Nat.mul_le_mul_right (2 ^ (52 - a.log2)) h1
    rw [h2] at h3
    exact h3
  · have h1 : a < 2 ^ (a.log2 + 1) := Nat.lt_log2_self
    have h2 : 2 ^ (a.log2 + 1) * 2 ^ (52 - a.log2) = 2 ^ 53 := by rw [← Nat.pow_add]; congr 1; omega
    have h3 := Nat.mul_lt_mul_of_pos_right h1 (Nat.two_pow_pos (52 - a.log2))
    rw [h2] at h3
    exact h3

theorem signed_unscale {s : Bool} {m a k : Nat} {n : Int} (hm : m = a * 2 ^ k) (hv : signed s m 0 = n * 2 ^ k) : signed s a 0 = n := by
  rw [signed_zero_up] at hv ⊢
  have hp : (0 : Int) < 2 ^ k := by exact_mod_cast Nat.two_pow_pos _
  rw [hm] at hv
  push_cast at hv
  have hc : (if s = true then -(a : Int) else (a : Int)) * 2 ^ k = n * 2 ^ k := by
    rw [← hv]; cases s <;> simp [Int.neg_mul]
  exact Int.eq_of_mul_eq_mul_right (by omega) hc

theorem signed_scale {s : Bool} {a k : Nat} {n : Int} (h : signed s a 0 = n) : signed s (a * 2 ^ k) 0 = n * 2 ^ k := by
  rw [signed_zero_up] at h ⊢
  rw [← h]
  push_cast
  cases s <;> simp [Int.neg_mul]

theorem std_read_norm (s : Bool) (l K : Nat) (n : Int) (hl : l ≤ 52) (h1 : 4503599627370496 ≤ K) (h2 : K < 9007199254740992) (h : signed s K 0 = n * 2 ^ (52 - l)) :
    Is (double.word s ((l + 1022) * 4503599627370496 + K)) n := by
  unfold Is
  rw [read_word s _ (by omega), if_neg (by omega)]
  have e4 : 4503599627370496 + ((l + 1022) * 4503599627370496 + K) % 4503599627370496 = K := by omega
  have e5 : (((l + 1022) * 4503599627370496 + K) / 4503599627370496 - 1 : Nat) = l + 1022 := by omega
  rw [e4, e5]
  refine ⟨_, _, _, rfl, by omega, ?_⟩
  have e6 : (-(-1074 + ((l + 1022 : Nat) : Int))).toNat = 52 - l := by omega
  rw [e6]
  exact h

theorem rung_eq (l K : Nat) (hl : l ≤ 52) (h2 : K < 9007199254740992) : min (((l : Int) - 52 - -1074).toNat * 4503599627370496 + K) 9218868437227405312 = (l + 1022) * 4503599627370496 + K := by
  have : ((l : Int) - 52 - -1074).toNat = l + 1022 := by omega
  rw [this]
  omega

theorem std_zero (s : Bool) : Is (double.word s 0) 0 := by
  unfold Is
  rw [read_word s 0 (by omega), if_pos (by omega)]
  exact ⟨_, _, _, rfl, by omega, by rw [signed_zero_up, Int.zero_mul]; cases s <;> rfl⟩

theorem std_write {d : Datum} {n : Int} (h : Std d n) (hn : n.natAbs < 9007199254740992) : Is (double.write d) n := by
  obtain ⟨s, m, i, rfl, hi, hv⟩ := h
  have hm := Std.mag hv
  show Is (double.nearest s m i) n
  have hb : double.binade = 4503599627370496 := by decide
  have hf : double.fractionBits = 52 := rfl
  have hinf : double.infRung = 9218868437227405312 := by decide
  have hl : double.leastPlace = -1074 := by decide
  unfold Format.nearest
  by_cases h0 : m = 0
  · rw [if_pos h0]
    subst h0
    have hz : n = 0 := by
      have hp := Nat.two_pow_pos (-i).toNat
      have : n.natAbs = 0 := by
        rcases Nat.eq_zero_or_pos n.natAbs with h | h
        · exact h
        · have := Nat.mul_pos h hp; omega
      omega
    subst hz
    exact std_zero s
  · rw [if_neg h0]
    generalize ha : n.natAbs = a at hm hn
    generalize hk : (-i).toNat = k at hm hv
    have ha0 : a ≠ 0 := by rintro rfl; rw [Nat.zero_mul] at hm; exact h0 hm
    have hi' : i = -(k : Int) := by omega
    have hlog : m.log2 = a.log2 + k := by
      rw [hm]
      exact log2_mul_two_pow a k ha0
    have hla : a.log2 ≤ 52 := by
      have := (Nat.log2_lt (k := 53) ha0).2 hn
      omega
    have hlast : max (i + (m.log2 : Int) - (double.fractionBits : Nat)) double.leastPlace = (a.log2 : Int) - 52 := by
      rw [hf, hl, hlog, hi']; omega
    rw [hlast]
    have hkept := std_kept a k s ha0 hla i hi'
    rw [← hm] at hkept
    simp only []
    rw [hkept]
    obtain ⟨hK1, hK2⟩ := norm_bounds a ha0 hla
    have hs2 := signed_scale (k := 52 - a.log2) (signed_unscale hm hv)
    generalize a * 2 ^ (52 - a.log2) = K at hK1 hK2 hs2
    generalize a.log2 = l at hla hs2
    rw [hl, hb, hinf, rung_eq l K hla hK2]
    exact std_read_norm s l K n hla hK1 hK2 hs2

/-! The operations on words. -/
theorem add_is {a b : Nat} {m n : Int} (ha : Is a m) (hb : Is b n) (h : (m + n).natAbs < 9007199254740992) : ∃ r, double.add a b = some r ∧ Is r (m + n) := by
  obtain ⟨d, hd, hs⟩ := std_sum ha hb
  exact ⟨_, by unfold Format.add; rw [hd]; rfl, std_write hs h⟩
theorem sub_is {a b : Nat} {m n : Int} (ha : Is a m) (hb : Is b n) (h : (m - n).natAbs < 9007199254740992) : ∃ r, double.sub a b = some r ∧ Is r (m - n) := by
  obtain ⟨d, hd, hs⟩ := std_sum ha (std_opposite hb)
  exact ⟨_, by unfold Format.sub; rw [hd]; rfl, std_write (by rw [Int.sub_eq_add_neg]; exact hs) h⟩
theorem mul_is {a b : Nat} {m n : Int} (ha : Is a m) (hb : Is b n) (h : (m * n).natAbs < 9007199254740992) : ∃ r, double.mul a b = some r ∧ Is r (m * n) := by
  obtain ⟨d, hd, hs⟩ := std_product ha hb
  exact ⟨_, by unfold Format.mul; rw [hd]; rfl, std_write hs h⟩
theorem toInt_is {a : Nat} {n : Int} (h : Is a n) : (Go.FloatKind.f64.decode a).toInt .zero = some n := std_toInt h
theorem order_is {a b : Nat} {m n : Int} (ha : Is a m) (hb : Is b n) : double.order a b = some (compare m n) := std_order ha hb
theorem nearest_is (n : Int) (h : n.natAbs < 9007199254740992) : Is (Go.FloatKind.f64.nearest n) n := by
  refine std_write ⟨_, _, _, rfl, by omega, ?_⟩ h
  rw [signed_zero_up]
  by_cases h0 : n < 0 <;> simp [h0] <;> omega
end F64
