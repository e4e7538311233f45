/-
  Plain: the four sums of bins, closed; the answer of Back in plain words.
-/
import Derived.Test.YtgkbpdcedighcabTurnB
namespace Go.Proofs.Ytgkbpdcedighcab

theorem tI4 : tI 4 = (1, 0) := (tI_mod 4).symm
theorem tI7 : tI 7 = (0, 1) := (tI_mod 7).symm
theorem tI10 : tI 10 = (-1, 0) := (tI_mod 10).symm
theorem tI12 : tI 12 = (1, 0) := (tI_mod 12).symm
theorem tI13 : tI 13 = (0, -1) := (tI_mod 13).symm
theorem tI14 : tI 14 = (-1, 0) := (tI_mod 14).symm
theorem tI15 : tI 15 = (0, 1) := (tI_mod 15).symm
theorem tI16 : tI 16 = (1, 0) := (tI_mod 16).symm

theorem four0 (X : Nat → Int × Int) : fourS X 0 4 = ((X 0).1 + (X 1).1 + (X 2).1 + (X 3).1, (X 0).2 + (X 1).2 + (X 2).2 + (X 3).2) := by
  simp [fourS, addZ, mulZ, tI16]
theorem four1 (X : Nat → Int × Int) : fourS X 1 4 = ((X 0).1 - (X 1).2 - (X 2).1 + (X 3).2, (X 0).2 + (X 1).1 - (X 2).2 - (X 3).1) := by
  simp [fourS, addZ, mulZ, tI16, tI15, tI14, tI13]; omega
theorem four2 (X : Nat → Int × Int) : fourS X 2 4 = ((X 0).1 - (X 1).1 + (X 2).1 - (X 3).1, (X 0).2 - (X 1).2 + (X 2).2 - (X 3).2) := by
  simp [fourS, addZ, mulZ, tI16, tI14, tI12, tI10]; omega
theorem four3 (X : Nat → Int × Int) : fourS X 3 4 = ((X 0).1 + (X 1).2 - (X 2).1 - (X 3).2, (X 0).2 - (X 1).1 - (X 2).2 + (X 3).1) := by
  simp [fourS, addZ, mulZ, tI16, tI13, tI10, tI7]; omega

/-- The four sums, with closed words. -/
def fourC (p : Nat → Int) : Nat → Int × Int
  | 0 => (p 0 + p 2 + p 4 + p 6, p 1 + p 3 + p 5 + p 7)
  | 1 => (p 0 - p 3 - p 4 + p 7, p 1 + p 2 - p 5 - p 6)
  | 2 => (p 0 - p 2 + p 4 - p 6, p 1 - p 3 + p 5 - p 7)
  | _ => (p 0 + p 3 - p 4 - p 7, p 1 - p 2 - p 5 + p 6)
theorem four_c (p : Nat → Int) (n : Nat) (hn : n < 4) : fourS (pairX p) n 4 = fourC p n := by
  match n, hn with
  | 0, _ => exact four0 _
  | 1, _ => exact four1 _
  | 2, _ => exact four2 _
  | 3, _ => exact four3 _

def okC (p : Nat → Int) (n : Nat) : Bool := decide ((fourC p n).1.tmod 4 = 0) && decide ((fourC p n).2 = 0)
def backEC (p : Nat → Int) : Int := if farAll p 4 then 1 else if (okC p 0 && okC p 1 && okC p 2 && okC p 3) then 0 else 3
def backVC (p : Nat → Int) (k : Nat) : Int := if backEC p = 0 then (fourC p k).1.tdiv 4 else 0
theorem okF_c (p : Nat → Int) (n : Nat) (hn : n < 4) : okF (pairX p) n = okC p n := by rw [okF, okC, four_c p n hn]
theorem backE_c (p : Nat → Int) : backE p = backEC p := by
  rw [backE, backEC, okAll, okAll, okAll, okAll, okAll, okF_c p 0 (by omega), okF_c p 1 (by omega), okF_c p 2 (by omega), okF_c p 3 (by omega), Bool.true_and]
theorem backV_c (p : Nat → Int) (k : Nat) (hk : k < 4) : backV p k = backVC p k := by rw [backV, backVC, backE_c, four_c p k hk]
end Go.Proofs.Ytgkbpdcedighcab
