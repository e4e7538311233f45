/-
  Plain: pieces laid into a memory.
-/
import Derived.Test.YtgkbpdcedighcacPcD
import Derived.Test.YtgkbpdcedighcacRam
namespace Go.Proofs.Ytgkbpdcedighcac

def Pv.ok (p : Pv) : Prop := 0 ≤ p.z ∧ p.z ≤ 8192 ∧ (p.l : Int) ≤ 8192 - p.z
instance (p : Pv) : Decidable p.ok := by unfold Pv.ok; infer_instance
/-- The first piece that doesn't lie in. -/
def badAt (Z : Nat → Pv) : Nat → Option Nat
  | 0 => none
  | n + 1 => match badAt Z n with
    | some i => some i
    | none => if (Z n).ok then none else some n
theorem badAt_some {Z : Nat → Pv} {k i : Nat} (h : badAt Z k = some i) : ∀ d, badAt Z (k + d) = some i
  | 0 => h
  | d + 1 => by rw [show k + (d + 1) = (k + d) + 1 by omega, badAt, badAt_some h d]
theorem badAt_ok {Z : Nat → Pv} {k : Nat} (h : badAt Z k = none) (ho : (Z k).ok) : badAt Z (k + 1) = none := by rw [badAt, h]; exact if_pos ho
theorem badAt_bad {Z : Nat → Pv} {k n : Nat} (h : badAt Z k = none) (ho : ¬ (Z k).ok) (hk : k < n) : badAt Z n = some k := by
  have h1 : badAt Z (k + 1) = some k := by rw [badAt, h]; exact if_neg ho
  have := badAt_some h1 (n - (k + 1))
  rwa [show k + 1 + (n - (k + 1)) = n by omega] at this
theorem badAt_all {Z : Nat → Pv} : ∀ n, (∀ i, i < n → (Z i).ok) → badAt Z n = none
  | 0, _ => rfl
  | n + 1, h => badAt_ok (badAt_all n fun i hi => h i (by omega)) (h n (by omega))

/-- One piece, so many of its bytes. -/
def lay (f : Nat → Nat) (s l : Nat) (g : Nat → Nat) : Nat → Nat := fun j => if s ≤ j ∧ j < s + l then g (j - s) else f j
theorem lay_zero (f : Nat → Nat) (s : Nat) (g : Nat → Nat) : lay f s 0 g = f := by funext j; unfold lay; rw [if_neg (by omega)]
theorem lay_succ (f : Nat → Nat) (s l : Nat) (g : Nat → Nat) : lay f s (l + 1) g = fun j => if j = s + l then g l else lay f s l g j := by
  funext j
  unfold lay
  by_cases h1 : j = s + l
  · subst h1
    rw [if_pos (by omega), if_pos rfl, Nat.add_sub_cancel_left]
  · rw [if_neg h1]
    by_cases h2 : s ≤ j ∧ j < s + l
    · rw [if_pos h2, if_pos (by omega)]
    · rw [if_neg h2, if_neg (by omega)]
theorem lay_put {f : Nat → Nat} {s l : Nat} {g : Nat → Nat} (h : s + l < 8192) : putB (lay f s l g) (s + l) (g l) = lay f s (l + 1) g := by
  rw [lay_succ]
  funext j
  unfold putB
  rw [Nat.mod_eq_of_lt h]
/-- All of them, one behind the other. -/
def laid (Z : Nat → Pv) : Nat → Nat → Nat
  | 0 => fun _ => 0
  | n + 1 => lay (laid Z n) (Z n).z.toNat (Z n).l (Z n).g
end Go.Proofs.Ytgkbpdcedighcac
