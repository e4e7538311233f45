/-
  '==' on rows of integers.
-/
import Derived.ChangeKeysEq
import Derived.Laws.StructEq
import Derived.WalkKit
namespace Go.Proofs.Ytgkbpdcedighcac
open Go

section
variable {P : Program}

/-- The elements are compared one by one. -/
theorem eqItems_all (w : World) (d : Nat) (e : TypeId) (z : Nat) (xs ys : Array Value) (q : Nat → Bool) : ∀ (is : List Nat),
    (∀ i ∈ is, ∃ a b, (part e xs (i * z)).run P w = .ok a w ∧ (part e ys (i * z)).run P w = .ok b w ∧ (Op.equalIn d e a b).run P w = .ok (q i) w) →
    (Op.eqItems d e z xs ys is).run P w = .ok (is.all q) w
  | [], _ => by simp [Op.eqItems]
  | i :: is, h => by
    obtain ⟨a, b, h1, h2, h3⟩ := h i (by simp)
    have ih := eqItems_all w d e z xs ys q is fun j hj => h j (by simp [hj])
    simp only [Op.eqItems, Sem.run_bind, h1, h2, h3, Result.andThen_ok, List.all_cons]
    cases q i
    · simp
    · simpa using ih

theorem equal_ints (w : World) (d : Nat) (t e : TypeId) (n : Nat) (k : IntKind) (inf : TypeInfo) (xs ys : Array Value) (f g : Nat → Int) (ht : P.underlying t = some (.array n e)) (he : P.underlying e = some (.int k)) (hi : P.info? e = some inf)
    (hz : P.cellsOf e = 1) (hx : ∀ i, i < n → xs[i]? = some (.int k (f i))) (hy : ∀ i, i < n → ys[i]? = some (.int k (g i))) :
    (Op.equalIn (d + 2) t (.agg xs) (.agg ys)).run P w = .ok ((List.range n).all fun i => f i == g i) w := by
  rw [run_equalIn_array w (d + 1) xs ys ht hi, hz]
  refine eqItems_all w (d + 1) e 1 xs ys _ _ fun i hin => ?_
  have hlt : i < n := List.mem_range.1 hin
  have hp : P.plainKey e = true := by simp [Program.plainKey, he]
  refine ⟨_, _, run_part_plain w hp (by rw [Nat.mul_one]; exact hx i hlt), run_part_plain w hp (by rw [Nat.mul_one]; exact hy i hlt), ?_⟩
  exact run_equalIn_int w d e k k _ _ he

theorem equal_pairs (w : World) (d : Nat) (t s e : TypeId) (n m : Nat) (k : IntKind) (inf inf2 : TypeInfo) (xs ys : Array Value) (f g : Nat → Int) (ht : P.underlying t = some (.array n s)) (hs : P.underlying s = some (.array m e)) (he : P.underlying e = some (.int k)) (hi : P.info? e = some inf) (hi2 : P.info? s = some inf2)
    (hz : P.cellsOf e = 1) (hz2 : P.cellsOf s = m) (hx : ∀ i, i < n * m → xs[i]? = some (.int k (f i))) (hy : ∀ i, i < n * m → ys[i]? = some (.int k (g i))) :
    (Op.equalIn (d + 3) t (.agg xs) (.agg ys)).run P w = .ok ((List.range n).all fun i => (List.range m).all fun j => f (i * m + j) == g (i * m + j)) w := by
  rw [run_equalIn_array w (d + 2) xs ys ht hi2, hz2]
  refine eqItems_all w (d + 2) s m xs ys _ _ fun i hin => ?_
  have hlt : i < n := List.mem_range.1 hin
  have hp : ∀ zs : Array Value, (part s zs (i * m)).run P w = .ok (.agg (zs.extract (i * m) (i * m + m))) w := fun zs => by
    simp [part, isAgg, run_underlying hs, run_sizeOf w hi2, hz2]
  refine ⟨_, _, hp xs, hp ys, equal_ints w d s e m k inf _ _ (fun j => f (i * m + j)) (fun j => g (i * m + j)) hs he hi hz (fun j hj => ?_) (fun j hj => ?_)⟩
  · have h1 : i * m + j < n * m := by
      have := Nat.mul_le_mul_right m (show i + 1 ≤ n by omega)
      rw [Nat.add_mul] at this; omega
    obtain ⟨h2, h3⟩ := Array.getElem?_eq_some_iff.1 (hx _ h1)
    rw [Array.getElem?_extract_of_lt (by omega), h3]
  · have h1 : i * m + j < n * m := by
      have := Nat.mul_le_mul_right m (show i + 1 ≤ n by omega)
      rw [Nat.add_mul] at this; omega
    obtain ⟨h2, h3⟩ := Array.getElem?_eq_some_iff.1 (hy _ h1)
    rw [Array.getElem?_extract_of_lt (by omega), h3]

theorem eql_of_equal {t : TypeId} {xs ys : Array Value} {b : Bool} (h : ∀ w, (Op.equalIn 10000 t (.agg xs) (.agg ys)).run P w = .ok b w) :
    (∀ w, (binOp .eql t (.agg xs) (.agg ys)).run P w = .ok (.bool b) w) ∧ (∀ w, (binOp .neq t (.agg xs) (.agg ys)).run P w = .ok (.bool (!b)) w) :=
  ⟨fun w => by rw [run_eql_struct, h w]; rfl, fun w => by rw [run_neq_struct, h w]; rfl⟩
end
end Go.Proofs.Ytgkbpdcedighcac
