/-
  The walks of the package noise: odd, Next, Back, of.
-/
import Derived.Test.YtgkbpdcedighcacRows
import Derived.Test.YtgkbpdcedighcacRegion
import Derived.Test.YtgkbpdcedighcacNoiseP
import Derived.WalkKit
import Derived.WalkSpells
import Derived.WalkLawsBesides
import Derived.Deep.RegionWith
import Derived.Outline
namespace Go.Proofs.Ytgkbpdcedighcac
open Go.RowKit Go.Sort NoiseP

/-! Bits of 32-bit words, as natural numbers. -/
theorem ofInt_u32 (a : Nat) (ha : a < 4294967296) : (BitVec.ofInt 32 (a : Int)).toNat = a := by
  rw [BitVec.ofInt_natCast, BitVec.toNat_ofNat]; exact Nat.mod_eq_of_lt (by omega)
theorem wrap_u32_nat (a : Nat) (ha : a < 4294967296) : IntKind.u32.wrap (a : Int) = a := by simp [IntKind.wrap, IntKind.signed, IntKind.bits]; omega
theorem u32_xor (a b : Nat) (ha : a < 4294967296) (hb : b < 4294967296) : bits .xor .u32 (a : Int) (b : Int) = ((a ^^^ b : Nat) : Int) := by
  have hx : a ^^^ b < 2 ^ 32 := Nat.xor_lt_two_pow (by omega) (by omega)
  show IntKind.u32.wrap ((BitVec.ofInt 32 (a : Int) ^^^ BitVec.ofInt 32 (b : Int)).toNat : Int) = _
  rw [BitVec.toNat_xor, ofInt_u32 a ha, ofInt_u32 b hb, wrap_u32_nat _ (by omega)]
theorem u32_and (a b : Nat) (ha : a < 4294967296) (hb : b < 4294967296) : bits .and .u32 (a : Int) (b : Int) = ((a &&& b : Nat) : Int) := by
  have hx : a &&& b < 2 ^ 32 := Nat.and_lt_two_pow _ (by omega)
  show IntKind.u32.wrap ((BitVec.ofInt 32 (a : Int) &&& BitVec.ofInt 32 (b : Int)).toNat : Int) = _
  rw [BitVec.toNat_and, ofInt_u32 a ha, ofInt_u32 b hb, wrap_u32_nat _ (by omega)]
theorem u32_or (a b : Nat) (ha : a < 4294967296) (hb : b < 4294967296) : bits .or .u32 (a : Int) (b : Int) = ((a ||| b : Nat) : Int) := by
  have hx : a ||| b < 2 ^ 32 := Nat.or_lt_two_pow (by omega) (by omega)
  show IntKind.u32.wrap ((BitVec.ofInt 32 (a : Int) ||| BitVec.ofInt 32 (b : Int)).toNat : Int) = _
  rw [BitVec.toNat_or, ofInt_u32 a ha, ofInt_u32 b hb, wrap_u32_nat _ (by omega)]

theorem ret_u32 {a b : Int} (h : a = b) : Ending.returned (.int .u32 a) = .returned (.int .u32 b) := by rw [h]

theorem xor_lt32 {a b : Nat} (ha : a < 4294967296) (hb : b < 4294967296) : a ^^^ b < 4294967296 := Nat.xor_lt_two_pow (n := 32) ha hb
theorem xstep (a : Nat) (k : Nat) (ha : a < 4294967296) : bits .xor .u32 (a : Int) ((a : Int) / (k : Int)) = ((a ^^^ a / k : Nat) : Int) := by
  have e : (a : Int) / (k : Int) = ((a / k : Nat) : Int) := by simp
  rw [e, u32_xor a _ ha (Nat.lt_of_le_of_lt (Nat.div_le_self _ _) ha)]

def oddI (s : Int) : Int :=
  let a := bits .xor .u32 s (s / 65536)
  let b := bits .xor .u32 a (a / 256)
  let c := bits .xor .u32 b (b / 16)
  let d := bits .xor .u32 c (c / 4)
  let e := bits .xor .u32 d (d / 2)
  bits .and .u32 e 1
theorem oddI_eq (s : Nat) (hs : s < 4294967296) : oddI (s : Int) = (oddN s : Nat) := by
  obtain ⟨x1, hx1⟩ : ∃ x, x = s ^^^ s / 65536 := ⟨_, rfl⟩
  have h1 : bits .xor .u32 (s : Int) ((s : Int) / 65536) = (x1 : Int) := by rw [hx1]; exact xstep s 65536 hs
  have b1 : x1 < 4294967296 := by rw [hx1]; exact xor_lt32 hs (by omega)
  obtain ⟨x2, hx2⟩ : ∃ x, x = x1 ^^^ x1 / 256 := ⟨_, rfl⟩
  have h2 : bits .xor .u32 (x1 : Int) ((x1 : Int) / 256) = (x2 : Int) := by rw [hx2]; exact xstep x1 256 b1
  have b2 : x2 < 4294967296 := by rw [hx2]; exact xor_lt32 b1 (by omega)
  obtain ⟨x3, hx3⟩ : ∃ x, x = x2 ^^^ x2 / 16 := ⟨_, rfl⟩
  have h3 : bits .xor .u32 (x2 : Int) ((x2 : Int) / 16) = (x3 : Int) := by rw [hx3]; exact xstep x2 16 b2
  have b3 : x3 < 4294967296 := by rw [hx3]; exact xor_lt32 b2 (by omega)
  obtain ⟨x4, hx4⟩ : ∃ x, x = x3 ^^^ x3 / 4 := ⟨_, rfl⟩
  have h4 : bits .xor .u32 (x3 : Int) ((x3 : Int) / 4) = (x4 : Int) := by rw [hx4]; exact xstep x3 4 b3
  have b4 : x4 < 4294967296 := by rw [hx4]; exact xor_lt32 b3 (by omega)
  obtain ⟨x5, hx5⟩ : ∃ x, x = x4 ^^^ x4 / 2 := ⟨_, rfl⟩
  have h5 : bits .xor .u32 (x4 : Int) ((x4 : Int) / 2) = (x5 : Int) := by rw [hx5]; exact xstep x4 2 b4
  have b5 : x5 < 4294967296 := by rw [hx5]; exact xor_lt32 b4 (by omega)
  have h6 : bits .and .u32 (x5 : Int) 1 = ((x5 &&& 1 : Nat) : Int) := u32_and x5 1 b5 (by omega)
  unfold oddI oddN
  simp only [h1, h2, h3, h4, h5, h6, ← hx1, ← hx2, ← hx3, ← hx4, ← hx5]

theorem odd_any (s : Nat) (w : World) (h1 : s < 4294967296) : Calls Try.prog 143 #[.int .u32 (s : Int)] w fun e w' => e = .returned (.int .u32 (oddN s : Nat)) ∧ w = w' := by
  rw [← oddI_eq s h1]
  have h0 : (0 : Int) ≤ s := by omega
  have h2 : (s : Int) ≤ 4294967295 := by omega
  generalize (s : Int) = t at h0 h2 ⊢
  go_enter Try.func143, Try.ntmps143
  go_wp2
  go_ret
  exact ⟨rfl, rfl⟩

theorem and18 (s : Nat) (hs : s < 4294967296) : bits .and .u32 (s : Int) 262143 = ((s % 262144 : Nat) : Int) := by
  have h : bits .and .u32 (s : Int) 262143 = ((s &&& 262143 : Nat) : Int) := u32_and s 262143 hs (by omega)
  rw [h, show (262143 : Nat) = 2 ^ 18 - 1 from rfl, Nat.and_two_pow_sub_one_eq_mod]

set_option maxHeartbeats 400000 in
theorem Next_any (s : Nat) (w : World) (hs : s < 4294967296) : Calls Try.prog 131 #[.int .u32 (s : Int)] w fun e w' => e = .returned (.int .u32 (nextN s : Nat)) ∧ w = w' := by
  obtain ⟨t, ht⟩ : ∃ t, t = s % 262144 := ⟨_, rfl⟩
  obtain ⟨u, hu⟩ : ∃ u, u = t &&& 137219 := ⟨_, rfl⟩
  obtain ⟨o, ho⟩ : ∃ o, o = oddN u := ⟨_, rfl⟩
  have ht1 : t < 262144 := by omega
  have hu1 : u < 4294967296 := by rw [hu]; exact Nat.lt_of_le_of_lt Nat.and_le_right (by omega)
  have ho1 : o < 2 := by rw [ho]; exact oddN_lt _
  have e1 : bits .and .u32 (s : Int) 262143 = (t : Int) := by rw [ht]; exact and18 s hs
  have e2 : bits .and .u32 (t : Int) 137219 = (u : Int) := by rw [hu]; exact u32_and t 137219 (by omega) (by omega)
  have hf : bits .or .u32 ((t : Int) / 2) ((o : Int) * 131072) = (nextN s : Nat) := by
    have h := u32_or (t / 2) (o * 131072) (by omega) (by omega)
    unfold nextN
    rw [← ht, ← hu, ← ho, ← h]
    simp
  have HF := Lib.hid hf
  have HO := Lib.hid ho
  clear ht hu ho hf
  go_enter Try.func131, Try.ntmps131
  go_wp2_with fail
  refine (odd_any u _ hu1).mono ?_
  rw [← HO.out]
  rintro e w' ⟨rfl, rfl⟩
  go_wp2
  go_ret
  exact ⟨ret_u32 HF.out, rfl⟩

set_option maxHeartbeats 400000 in
theorem Back_any (s : Nat) (w : World) (hs : s < 4294967296) : Calls Try.prog 132 #[.int .u32 (s : Int)] w fun e w' => e = .returned (.int .u32 (backN s : Nat)) ∧ w = w' := by
  obtain ⟨t, ht⟩ : ∃ t, t = s % 262144 := ⟨_, rfl⟩
  obtain ⟨x, hx⟩ : ∃ x, x = t * 2 % 262144 := ⟨_, rfl⟩
  obtain ⟨u, hu⟩ : ∃ u, u = x &&& 137219 := ⟨_, rfl⟩
  obtain ⟨o, ho⟩ : ∃ o, o = oddN u := ⟨_, rfl⟩
  have ht1 : t < 262144 := by omega
  have hx1 : x < 262144 := by omega
  have hu1 : u < 4294967296 := by rw [hu]; exact Nat.lt_of_le_of_lt Nat.and_le_right (by omega)
  have ho1 : o < 2 := by rw [ho]; exact oddN_lt _
  have e1 : bits .and .u32 (s : Int) 262143 = (t : Int) := by rw [ht]; exact and18 s hs
  have e0 : bits .and .u32 ((t : Int) * 2) 262143 = (x : Int) := by rw [hx]; exact and18 (t * 2) (by omega)
  have e2 : bits .and .u32 (x : Int) 137219 = (u : Int) := by rw [hu]; exact u32_and x 137219 (by omega) (by omega)
  have hf : bits .xor .u32 (bits .or .u32 (x : Int) (o : Int)) ((t : Int) / 131072) = (backN s : Nat) := by
    have hl : x ||| o < 4294967296 := Nat.or_lt_two_pow (n := 32) (by omega) (by omega)
    have h := u32_xor (x ||| o) (t / 131072) hl (by omega)
    unfold backN
    rw [← ht, ← hx, ← hu, ← ho, ← h, u32_or x o (by omega) (by omega)]
    simp
  have HF := Lib.hid hf
  have HO := Lib.hid ho
  clear ht hx hu ho hf
  go_enter Try.func132, Try.ntmps132
  go_wp2_with fail
  refine (odd_any u _ hu1).mono ?_
  rw [← HO.out]
  rintro e w' ⟨rfl, rfl⟩
  go_wp2
  go_ret
  exact ⟨ret_u32 HF.out, rfl⟩
end Go.Proofs.Ytgkbpdcedighcac
