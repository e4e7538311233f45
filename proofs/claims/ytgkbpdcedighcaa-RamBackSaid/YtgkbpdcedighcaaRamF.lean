/-
  Plain: a memory with one byte; a memory of nothing.
-/
import Derived.Test.YtgkbpdcedighcaaRamQ
import Derived.Test.YtgkbpdcedighcaaPcsP
import Derived.Test.YtgkbpdcedighcaaPcsA
namespace Go.Proofs.Ytgkbpdcedighcaa

/-- Where one byte is laid at place 1. -/
@[irreducible] def f7 : Nat → Nat := fun j => if j = 1 then 7 else 0
theorem f7_at (j : Nat) : f7 j = if j = 1 then 7 else 0 := by unfold f7; rfl
theorem f7_put (j : Nat) : f7 j = putB (fun _ => 0) 8193 7 j := by rw [f7_at]; rfl

theorem pcs_f7 : ∀ d, pcs f7 (d + 2) = ⟨0 + 1, fun i => if i = 0 then 1 else 0, fun i => if i = 0 then 1 else 0⟩
  | 0 => by
    have h0 : f7 0 = 0 := f7_at 0
    have h1 : f7 1 ≠ 0 := by rw [f7_at]; decide
    have e1 : pcs f7 (0 + 1) = pcs f7 0 := pcs_zero h0
    have ho : opn f7 1 = false := by show decide (f7 0 ≠ 0) = false; rw [h0]; rfl
    show pcs f7 (1 + 1) = _
    rw [pcs_next h1 ho]
    rw [show (1 : Nat) = 0 + 1 from rfl, e1]
    rfl
  | d + 1 => by
    rw [show d + 1 + 2 = (d + 2) + 1 by omega, pcs_zero (by rw [f7_at, if_neg (by omega)]), pcs_f7 d]
theorem pcs_none : ∀ d, pcs (fun _ => 0) d = ⟨0, fun _ => 0, fun _ => 0⟩
  | 0 => rfl
  | d + 1 => by rw [pcs_zero rfl, pcs_none d]
theorem cntb_f7 {n : Nat} (hn : 0 < n) : cntb f7 n = 1 := by
  have hz : ∀ k', k' ≠ 0 → nzb f7 k' = nzb (fun _ => 0) k' := fun k' hk => nzb_ext fun i hi => by rw [f7_at, if_neg (by omega)]
  have h0 : nzb f7 0 = true := by
    simp only [nzb, List.any_eq_true, List.mem_range, decide_eq_true_eq]
    exact ⟨1, by omega, by rw [f7_at]; decide⟩
  have := cntb_upd (f := fun _ => 0) (g := f7) (k := 0) hz n hn
  rw [cntb_zero, nzb_zero, h0] at this
  simpa using this
theorem oth_f7 : othA f7 (fun _ => 0) = 1 := by
  have h0 : f7 0 = 0 := f7_at 0
  have h1 : f7 1 = 7 := f7_at 1
  refine othA_of (k := 2) (by omega) ?_ (by omega)
  rw [othZ, othZ, othZ, if_pos rfl, h0, if_pos rfl, if_pos rfl, h1, if_neg (by omega)]
  rfl
theorem othZ_self (f : Nat → Nat) : ∀ n, othZ f f n = -1
  | 0 => rfl
  | n + 1 => by rw [othZ, if_pos (othZ_self f n), if_pos rfl]
theorem oth_self (f : Nat → Nat) : othA f f = -1 := othA_none rfl (othZ_self f _)
theorem same_self (f : Nat → Nat) : sameZ f f = true := by unfold sameZ; rw [oth_self]; rfl
end Go.Proofs.Ytgkbpdcedighcaa
