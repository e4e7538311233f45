/-
  Plain: bytes and periods of a channel.
-/
import Derived.Test.YtgkbpdcedighcacRegion
import Derived.Test.YtgkbpdcedighcacRowF
namespace Go.Proofs.Ytgkbpdcedighcac
open Go

theorem u8_and64 (b : Nat) (hb : b < 256) : bits .and .u8 (b : Int) 64 = ((b / 64 % 2 * 64 : Nat) : Int) := by
  have : ∀ b : Fin 256, bits .and .u8 ((b.val : Nat) : Int) 64 = ((b.val / 64 % 2 * 64 : Nat) : Int) := by decide +kernel
  exact this ⟨b, hb⟩
theorem u8_and128 (b : Nat) (hb : b < 256) : bits .and .u8 (b : Int) 128 = ((b / 128 * 128 : Nat) : Int) := by
  have : ∀ b : Fin 256, bits .and .u8 ((b.val : Nat) : Int) 128 = ((b.val / 128 * 128 : Nat) : Int) := by decide +kernel
  exact this ⟨b, hb⟩
theorem u8_and31' (b : Nat) (hb : b < 256) : bits .and .u8 (b : Int) 31 = ((b % 32 : Nat) : Int) := by
  have : ∀ b : Fin 256, bits .and .u8 ((b.val : Nat) : Int) 31 = ((b.val % 32 : Nat) : Int) := by decide +kernel
  exact this ⟨b, hb⟩
theorem u8_and15' (b : Nat) (hb : b < 256) : bits .and .u8 (b : Int) 15 = ((b % 16 : Nat) : Int) := by
  have : ∀ b : Fin 256, bits .and .u8 ((b.val : Nat) : Int) 15 = ((b.val % 16 : Nat) : Int) := by decide +kernel
  exact this ⟨b, hb⟩
theorem i64_not255 (f : Nat) (hf : f < 4096) : bits .andNot .i64 (f : Int) 255 = ((f / 256 * 256 : Nat) : Int) := by
  have : ∀ a : Fin 16, ∀ b : Fin 256, bits .andNot .i64 ((a.val * 256 + b.val : Nat) : Int) 255 = ((a.val * 256 : Nat) : Int) := by decide +kernel
  have h := this ⟨f / 256, by omega⟩ ⟨f % 256, by omega⟩
  simp only at h
  rwa [show f / 256 * 256 + f % 256 = f by omega] at h
theorem i64_and255 (f : Nat) (hf : f < 4096) : bits .and .i64 (f : Int) 255 = ((f % 256 : Nat) : Int) := by
  have : ∀ a : Fin 16, ∀ b : Fin 256, bits .and .i64 ((a.val * 256 + b.val : Nat) : Int) 255 = ((b.val : Nat) : Int) := by decide +kernel
  have h := this ⟨f / 256, by omega⟩ ⟨f % 256, by omega⟩
  simp only at h
  rwa [show f / 256 * 256 + f % 256 = f by omega] at h
theorem i64_or256 (a b : Nat) (ha : a < 16) (hb : b < 256) : bits .or .i64 ((a * 256 : Nat) : Int) (b : Int) = ((a * 256 + b : Nat) : Int) := by
  have : ∀ a : Fin 16, ∀ b : Fin 256, bits .or .i64 ((a.val * 256 : Nat) : Int) ((b.val : Nat) : Int) = ((a.val * 256 + b.val : Nat) : Int) := by decide +kernel
  exact this ⟨a, ha⟩ ⟨b, hb⟩
theorem i64_and4095 (x : Int) (hx : -4096 ≤ x ∧ x ≤ 8191) : bits .and .i64 x 4095 = x % 4096 := by
  have : ∀ a : Fin 48, ∀ b : Fin 256, bits .and .i64 (((a.val * 256 + b.val : Nat) : Int) - 4096) 4095 = (((a.val * 256 + b.val : Nat) : Int) - 4096) % 4096 := by decide +kernel
  have h := this ⟨(x + 4096).toNat / 256, by omega⟩ ⟨(x + 4096).toNat % 256, by omega⟩
  simp only at h
  rwa [show (((x + 4096).toNat / 256 * 256 + (x + 4096).toNat % 256 : Nat) : Int) - 4096 = x by omega] at h

/-- A step's clocks. -/
def perW (fr : Nat) (be : Int) : Int := if ((fr : Int) + be) % 4096 = 0 then 4096 else ((fr : Int) + be) % 4096
theorem perW_pos (fr : Nat) (be : Int) : 1 ≤ perW fr be ∧ perW fr be ≤ 4096 := by
  unfold perW
  split <;> omega
def holdW (d : Int) : Int := if d < -4096 then -4096 else if 4096 < d then 4096 else d
theorem holdW_le (d : Int) : -4096 ≤ holdW d ∧ holdW d ≤ 4096 := by
  unfold holdW
  split
  · omega
  · split <;> omega

/-- What n clocks make of a place and of what is left. -/
def goPl (pl : Nat) (lf p n : Int) : Nat := if n < lf then pl else ((pl : Int) + 1 + (n - lf) / p).toNat % 32
def goLf (lf p n : Int) : Int := if n < lf then lf - n else p - (n - lf) % p
theorem goPl_lt (pl : Nat) (lf p n : Int) (h : pl < 32) : goPl pl lf p n < 32 := by
  unfold goPl
  split
  · exact h
  · exact Nat.mod_lt _ (by omega)
theorem goLf_le (lf p n : Int) (hl : 1 ≤ lf ∧ lf ≤ 4096) (hp : 1 ≤ p ∧ p ≤ 4096) (hn : 0 ≤ n) : 1 ≤ goLf lf p n ∧ goLf lf p n ≤ 4096 := by
  unfold goLf
  split
  · omega
  · have h1 := Int.emod_nonneg (n - lf) (show p ≠ 0 by omega)
    have h2 := Int.emod_lt_of_pos (n - lf) (show 0 < p by omega)
    omega
end Go.Proofs.Ytgkbpdcedighcac
