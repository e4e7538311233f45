/-
  Plain: bins by the four folded sums.
-/
import Derived.Test.YtgkbpdcedighcabTurnQ
namespace Go.Proofs.Ytgkbpdcedighcab

theorem tI_k (k n r : Nat) (h : n % 4 = r) : tI (k * n) = tI ((k * r) % 4) := by
  subst h
  rw [Nat.mul_mod_mod, tI_mod]

theorem binZ_fold (z : Nat → Int) (n : Nat) :
    binZ z 0 n = (foldZ z n 0 + foldZ z n 1 + foldZ z n 2 + foldZ z n 3, 0) ∧ binZ z 1 n = (foldZ z n 0 - foldZ z n 2, foldZ z n 3 - foldZ z n 1)
    ∧ binZ z 2 n = (foldZ z n 0 - foldZ z n 1 + foldZ z n 2 - foldZ z n 3, 0) ∧ binZ z 3 n = (foldZ z n 0 - foldZ z n 2, foldZ z n 1 - foldZ z n 3) := by
  induction n with
  | zero => simp [binZ, foldZ]
  | succ n ih =>
    obtain ⟨h0, h1, h2, h3⟩ := ih
    simp only [binZ, h0, h1, h2, h3, addZ, mulZ_re, foldZ]
    have hr : n % 4 = 0 ∨ n % 4 = 1 ∨ n % 4 = 2 ∨ n % 4 = 3 := by omega
    rcases hr with hr | hr | hr | hr
    all_goals (
      simp only [hr, tI_k 0 n _ hr, tI_k 1 n _ hr, tI_k 2 n _ hr, tI_k 3 n _ hr, tI]
      simp
      omega)

theorem binF_fold (z : Nat → Int) (n i : Nat) (hi : i < 8) : pI (fun k => binZ z k n) i = binF (foldZ z n) i := by
  obtain ⟨h0, h1, h2, h3⟩ := binZ_fold z n
  match i, hi with
  | 0, _ => simp [pI, binF, h0]
  | 1, _ => simp [pI, binF, h0]
  | 2, _ => simp [pI, binF, h1]
  | 3, _ => simp [pI, binF, h1]
  | 4, _ => simp [pI, binF, h2]
  | 5, _ => simp [pI, binF, h2]
  | 6, _ => simp [pI, binF, h3]
  | 7, _ => simp [pI, binF, h3]
end Go.Proofs.Ytgkbpdcedighcab
