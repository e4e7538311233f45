/-
  '==' on two rows of four pairs.
-/
import Derived.Test.YtgkbpdcedighcacSndAB
namespace Go.Proofs.Ytgkbpdcedighcac
open Go.RowKit Go.Sort

theorem extract_get {xs : Array Value} {s m j n : Nat} {k : IntKind} {f : Nat → Int} (hx : ∀ i, i < n → xs[i]? = some (.int k (f i))) (hj : j < m) (h : s + j < n) :
    (xs.extract s (s + m))[j]? = some (.int k (f (s + j))) := by
  obtain ⟨h2, h3⟩ := Array.getElem?_eq_some_iff.1 (hx _ h)
  rw [Array.getElem?_extract_of_lt (by omega), h3]

theorem equal_trips {P : Program} (w : World) (d : Nat) (u t s e : TypeId) (l n m : Nat) (k : IntKind) (inf inf2 inf3 : TypeInfo) (xs ys : Array Value) (f g : Nat → Int) (hu : P.underlying u = some (.array l t)) (ht : P.underlying t = some (.array n s)) (hs : P.underlying s = some (.array m e)) (he : P.underlying e = some (.int k)) (hi : P.info? e = some inf) (hi2 : P.info? s = some inf2) (hi3 : P.info? t = some inf3)
    (hz : P.cellsOf e = 1) (hz2 : P.cellsOf s = m) (hz3 : P.cellsOf t = n * m) (hx : ∀ i, i < l * (n * m) → xs[i]? = some (.int k (f i))) (hy : ∀ i, i < l * (n * m) → ys[i]? = some (.int k (g i))) :
    (Op.equalIn (d + 4) u (.agg xs) (.agg ys)).run P w = .ok ((List.range l).all fun h => (List.range n).all fun i => (List.range m).all fun j => f (h * (n * m) + (i * m + j)) == g (h * (n * m) + (i * m + j))) w := by
  rw [run_equalIn_array w (d + 3) xs ys hu hi3, hz3]
  refine eqItems_all w (d + 3) t (n * m) xs ys _ _ fun h hin => ?_
  have hlt : h < l := List.mem_range.1 hin
  have hp : ∀ zs : Array Value, (Go.part t zs (h * (n * m))).run P w = .ok (.agg (zs.extract (h * (n * m)) (h * (n * m) + n * m))) w := fun zs => by
    simp [Go.part, isAgg, run_underlying ht, run_sizeOf w hi3, hz3]
  have h1 : ∀ j, j < n * m → h * (n * m) + j < l * (n * m) := fun j hj => by
    have := Nat.mul_le_mul_right (n * m) (show h + 1 ≤ l by omega)
    rw [Nat.add_mul] at this; omega
  exact ⟨_, _, hp xs, hp ys, equal_pairs w d t s e n m k inf inf2 _ _ (fun j => f (h * (n * m) + j)) (fun j => g (h * (n * m) + j)) ht hs he hi hi2 hz hz2 (fun j hj => extract_get hx hj (h1 j hj)) (fun j hj => extract_get hy hj (h1 j hj))⟩

theorem infoP3 : (Try.prog.info? 87).isSome = true := by kernel_rfl
theorem infoA3 : (Try.prog.info? 89).isSome = true := by kernel_rfl
theorem eql3_same (f : Nat → Int) (w : World) : (binOp .eql 90 (.agg (rowI 16 f).toArray) (.agg (rowI 16 f).toArray)).run Try.prog w = .ok (.bool true) w := by
  obtain ⟨inf, hi⟩ := Option.isSome_iff_exists.1 info64
  obtain ⟨inf2, hi2⟩ := Option.isSome_iff_exists.1 infoP3
  obtain ⟨inf3, hi3⟩ := Option.isSome_iff_exists.1 infoA3
  refine (eql_of_equal (b := true) fun w => ?_).1 w
  rw [equal_trips w 9996 90 89 87 3 2 4 2 .i64 inf inf2 inf3 _ _ f f Try.underlying90 Try.underlying89 Try.underlying87 Try.underlying3 hi hi2 hi3 (by kernel_rfl) (by kernel_rfl) (by kernel_rfl) (fun i h => rowI_cell h) (fun i h => rowI_cell h)]
  simp
end Go.Proofs.Ytgkbpdcedighcac
