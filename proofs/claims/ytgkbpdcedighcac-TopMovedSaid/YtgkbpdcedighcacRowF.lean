/-
  Rows of cells given by a function of the index.
-/
namespace Go.Proofs.Ytgkbpdcedighcac

def rowF {α : Type} (n : Nat) (f : Nat → α) : List α := (List.range n).map f
def partF {α : Type} (f g : Nat → α) (k i : Nat) : α := if i < k then f i else g i

section
variable {α : Type} {n k : Nat} {f g : Nat → α}
@[simp] theorem rowF_len : (rowF n f).length = n := by simp [rowF]
theorem rowF_get (h : k < n) : (rowF n f)[k]? = some (f k) := by
  unfold rowF
  rw [List.getElem?_map, List.getElem?_range h]
  rfl
theorem rowF_ext (h : ∀ i, i < n → f i = g i) : rowF n f = rowF n g := by
  unfold rowF
  apply List.map_congr_left
  intro i hi
  exact h i (List.mem_range.1 hi)
theorem rowF_set (v : α) (_ : k < n) : (rowF n f).set k v = rowF n fun i => if i = k then v else f i := by
  apply List.ext_getElem
  · simp
  · intro i h1 h2
    simp only [rowF_len] at h2
    by_cases hik : k = i
    · subst hik; simp [rowF]
    · simp [rowF, hik, Ne.symm hik]
theorem rowF_part_set {v : α} (h : k < n) (hv : v = f k) : (rowF n (partF f g k)).set k v = rowF n (partF f g (k + 1)) := by
  subst hv
  rw [rowF_set _ h]
  apply rowF_ext
  intro i _
  unfold partF
  by_cases h1 : i = k
  · subst h1; simp
  · by_cases h2 : i < k
    · simp [h1, h2, Nat.lt_succ_of_lt h2]
    · simp [h1, h2, show ¬ i < k + 1 by omega]
theorem rowF_part_full : rowF n (partF f g n) = rowF n f := rowF_ext fun i hi => by simp [partF, hi]
theorem rowF_part_zero : rowF n (partF f g 0) = rowF n g := rowF_ext fun i _ => by simp [partF]
theorem rowF_all {p : α → Prop} (h : ∀ i, i < n → p (f i)) : ∀ v ∈ rowF n f, p v := by
  intro v hv
  obtain ⟨i, hi, rfl⟩ := List.mem_map.1 hv
  exact h i (List.mem_range.1 hi)
theorem rowF4 : rowF 4 f = [f 0, f 1, f 2, f 3] := rfl
theorem rowF8 : rowF 8 f = [f 0, f 1, f 2, f 3, f 4, f 5, f 6, f 7] := rfl
end
end Go.Proofs.Ytgkbpdcedighcac
