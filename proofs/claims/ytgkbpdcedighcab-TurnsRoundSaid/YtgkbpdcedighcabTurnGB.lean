/-
  Of layer 17: more walks.
-/
import Derived.Test.YtgkbpdcedighcabTurnG
namespace Go.Proofs.Ytgkbpdcedighcab
open Go.RowKit Go.Sort

set_option maxRecDepth 100000 in
set_option maxHeartbeats 2000000 in
theorem Bins_any (f : Nat → Int) (w : World) (hf : ∀ i, i < 4 → -2305843009213693952 ≤ f i ∧ f i ≤ 2305843009213693951) :
    Calls Try.prog 21 #[.agg (rowI 4 f).toArray] w fun e w' => e = .returned (.agg (rowI 8 (binF f)).toArray) ∧ Below w.heap.size w w' := by
  obtain ⟨a1, a2⟩ := hf 0 (by omega)
  obtain ⟨b1, b2⟩ := hf 1 (by omega)
  obtain ⟨c1, c2⟩ := hf 2 (by omega)
  obtain ⟨d1, d2⟩ := hf 3 (by omega)
  have HF : Hid (rowI 8 (binF f) = [.int .i64 (f 0 + f 1 + f 2 + f 3), .int .i64 0, .int .i64 (f 0 - f 2), .int .i64 (f 3 - f 1), .int .i64 (f 0 - f 1 + f 2 - f 3), .int .i64 0, .int .i64 (f 0 - f 2), .int .i64 (f 1 - f 3)]) := Lib.hid rfl
  have HR : rowI 4 f = [.int .i64 (f 0), .int .i64 (f 1), .int .i64 (f 2), .int .i64 (f 3)] := rfl
  rw [HR]
  clear hf HR
  generalize f 0 = p at *
  generalize f 1 = q at *
  generalize f 2 = r at *
  generalize f 3 = s at *
  go_enter Try.func21, Try.ntmps21
  go_wp2
  (try simp only [Exit.inBlock, Exit.then])
  refine allocs2 ?_
  intro w1 _ hA1 hB1 _
  refine bodyPost_ret (results_cell_at rfl _ _ (w.heap.size + 1) 23 _ hA1 _ (by kernel_rfl) Try.underlying23 rfl (by kernel_rfl)) rfl ?_
  exact ⟨by rw [HF.out], hB1⟩
end Go.Proofs.Ytgkbpdcedighcab
