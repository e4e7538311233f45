/-
  '==' on the rows of layer 17.
-/
import Derived.Test.YtgkbpdcedighcabTurnV
import Derived.Test.YtgkbpdcedighcabEql
namespace Go.Proofs.Ytgkbpdcedighcab
open Go.RowKit Go.Sort

theorem infoPair : (Try.prog.info? 22).isSome = true := by kernel_rfl
def eqB (f g : Nat → Int) (n : Nat) : Bool := (List.range n).all fun i => f i == g i
theorem eqB_iff (f g : Nat → Int) (n : Nat) : eqB f g n = true ↔ ∀ i, i < n → f i = g i := by simp [eqB, List.all_eq_true]
theorem rowI_eqB {f g : Nat → Int} {n : Nat} (h : eqB f g n = true) : rowI n f = rowI n g := by
  unfold rowI
  exact rowF_ext fun i hi => by rw [(eqB_iff f g n).1 h i hi]
theorem eqB_same {f g : Nat → Int} {n : Nat} (h : ∀ i, i < n → f i = g i) : eqB f g n = true := (eqB_iff f g n).2 h

theorem rowI_cell {n : Nat} {f : Nat → Int} {i : Nat} (h : i < n) : (rowI n f).toArray[i]? = some (.int .i64 (f i)) := by
  rw [List.getElem?_toArray]; exact rowF_get (f := fun i => Value.int .i64 (f i)) h

theorem all2 (f g : Nat → Int) (n m : Nat) : ((List.range n).all fun i => (List.range m).all fun j => f (i * m + j) == g (i * m + j)) = true ↔ ∀ i, i < n → ∀ j, j < m → f (i * m + j) = g (i * m + j) := by
  simp [List.all_eq_true]

set_option maxRecDepth 100000 in
theorem eql8 (f g : Nat → Int) : (∀ w, (binOp .eql 23 (.agg (rowI 8 f).toArray) (.agg (rowI 8 g).toArray)).run Try.prog w = .ok (.bool (eqB f g 8)) w)
    ∧ (∀ w, (binOp .neq 23 (.agg (rowI 8 f).toArray) (.agg (rowI 8 g).toArray)).run Try.prog w = .ok (.bool (!eqB f g 8)) w) := by
  obtain ⟨inf, hi, _⟩ := info_parts infoInt
  obtain ⟨inf2, hi2⟩ := Option.isSome_iff_exists.1 infoPair
  refine eql_of_equal fun w => ?_
  rw [equal_pairs w 9997 23 22 3 4 2 .i64 inf inf2 _ _ f g Try.underlying23 Try.underlying22 Try.underlying3 hi hi2 (by kernel_rfl) (by kernel_rfl) (fun i h => rowI_cell h) (fun i h => rowI_cell h)]
  congr 1
  rw [Bool.eq_iff_iff, all2, eqB_iff]
  constructor
  · intro h i hi
    have := h (i / 2) (by omega) (i % 2) (by omega)
    rwa [Nat.div_add_mod' i 2] at this
  · intro h i hi j hj
    exact h _ (by omega)
theorem eql2 (f g : Nat → Int) : (∀ w, (binOp .eql 22 (.agg (rowI 2 f).toArray) (.agg (rowI 2 g).toArray)).run Try.prog w = .ok (.bool (eqB f g 2)) w)
    ∧ (∀ w, (binOp .neq 22 (.agg (rowI 2 f).toArray) (.agg (rowI 2 g).toArray)).run Try.prog w = .ok (.bool (!eqB f g 2)) w) := by
  obtain ⟨inf, hi, _⟩ := info_parts infoInt
  refine eql_of_equal fun w => ?_
  rw [equal_ints w 9998 22 3 2 .i64 inf _ _ f g Try.underlying22 Try.underlying3 hi (by kernel_rfl) (fun i h => rowI_cell h) (fun i h => rowI_cell h)]
  rfl

def litF (xs : List Int) (i : Nat) : Int := xs.getD i 0
theorem ints_at {w : World} {b : Nat} {t : TypeId} {n : Nat} {z : Nat → Int} (h : At w b t (rowI n z)) : IntsAt w (some ⟨b, 0, none⟩) n z := fun i hi => by
  refine ⟨b, 0, rfl, h.lt, ?_⟩
  rw [Nat.zero_add]
  exact h.cell i (rowF_get (f := fun i => Value.int .i64 (z i)) hi)
end Go.Proofs.Ytgkbpdcedighcab
