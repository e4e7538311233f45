/-
  The walks of bins.parts, bins.four.
-/
import Derived.Test.YtgkbpdcedighcacTurnW
import Derived.LoopN
import Derived.Test.YtgkbpdcedighcacIndex
namespace Go.Proofs.Ytgkbpdcedighcac
open Go.RowKit Go.Sort

set_option maxRecDepth 100000 in
set_option maxHeartbeats 4000000 in
theorem parts_any (vs : Nat → Value) (X : Nat → Int × Int) (w : World) (hv : ∀ k, k < 4 → CZ (vs k) (X k).1 (X k).2) (hX : ∀ k, k < 4 → (-9007199254740992 ≤ (X k).1 ∧ (X k).1 ≤ 9007199254740992) ∧ (-9007199254740992 ≤ (X k).2 ∧ (X k).2 ≤ 9007199254740992)) :
    Calls Try.prog 124 #[.agg (rowF 4 vs).toArray] w fun e w' => e = .returned (.agg #[.int .i64 (X 0).1, .int .i64 (X 0).2, .int .i64 (X 1).1, .int .i64 (X 1).2, .int .i64 (X 2).1, .int .i64 (X 2).2, .int .i64 (X 3).1, .int .i64 (X 3).2]) ∧ Below w.heap.size w w' := by
  rw [rowF4]
  obtain ⟨a0, b0, e0, ha0, hb0⟩ := hv 0 (by omega)
  obtain ⟨a1, b1, e1, ha1, hb1⟩ := hv 1 (by omega)
  obtain ⟨a2, b2, e2, ha2, hb2⟩ := hv 2 (by omega)
  obtain ⟨a3, b3, e3, ha3, hb3⟩ := hv 3 (by omega)
  rw [e0, e1, e2, e3]
  have f0 := fun w => fint_fact (P := Try.prog) ha0 (hX 0 (by omega)).1 131 3 rfl rfl w
  have g0 := fun w => fint_fact (P := Try.prog) hb0 (hX 0 (by omega)).2 131 3 rfl rfl w
  have f1 := fun w => fint_fact (P := Try.prog) ha1 (hX 1 (by omega)).1 131 3 rfl rfl w
  have g1 := fun w => fint_fact (P := Try.prog) hb1 (hX 1 (by omega)).2 131 3 rfl rfl w
  have f2 := fun w => fint_fact (P := Try.prog) ha2 (hX 2 (by omega)).1 131 3 rfl rfl w
  have g2 := fun w => fint_fact (P := Try.prog) hb2 (hX 2 (by omega)).2 131 3 rfl rfl w
  have f3 := fun w => fint_fact (P := Try.prog) ha3 (hX 3 (by omega)).1 131 3 rfl rfl w
  have g3 := fun w => fint_fact (P := Try.prog) hb3 (hX 3 (by omega)).2 131 3 rfl rfl w
  generalize (X 0).1 = x0 at *
  generalize (X 0).2 = y0 at *
  generalize (X 1).1 = x1 at *
  generalize (X 1).2 = y1 at *
  generalize (X 2).1 = x2 at *
  generalize (X 2).2 = y2 at *
  generalize (X 3).1 = x3 at *
  generalize (X 3).2 = y3 at *
  clear hv hX e0 e1 e2 e3 ha0 hb0 ha1 hb1 ha2 hb2 ha3 hb3
  go_enter Try.func124, Try.ntmps124
  go_wp2_with fail
  have i0 : ∀ w, (Instr.index 185 (.agg #[.complex .f64 a0 b0, .complex .f64 a1 b1, .complex .f64 a2 b2, .complex .f64 a3 b3]) (.int .i64 0)).run Try.prog w = .ok (.complex .f64 a0 b0) w := index_one 185 118 4 _ _ _ _ 1 _ rfl rfl rfl (by kernel_rfl) rfl (by decide) rfl
  have i1 : ∀ w, (Instr.index 185 (.agg #[.complex .f64 a0 b0, .complex .f64 a1 b1, .complex .f64 a2 b2, .complex .f64 a3 b3]) (.int .i64 1)).run Try.prog w = .ok (.complex .f64 a1 b1) w := index_one 185 118 4 _ _ _ _ 1 _ rfl rfl rfl (by kernel_rfl) rfl (by decide) rfl
  have i2 : ∀ w, (Instr.index 185 (.agg #[.complex .f64 a0 b0, .complex .f64 a1 b1, .complex .f64 a2 b2, .complex .f64 a3 b3]) (.int .i64 2)).run Try.prog w = .ok (.complex .f64 a2 b2) w := index_one 185 118 4 _ _ _ _ 1 _ rfl rfl rfl (by kernel_rfl) rfl (by decide) rfl
  have i3 : ∀ w, (Instr.index 185 (.agg #[.complex .f64 a0 b0, .complex .f64 a1 b1, .complex .f64 a2 b2, .complex .f64 a3 b3]) (.int .i64 3)).run Try.prog w = .ok (.complex .f64 a3 b3) w := index_one 185 118 4 _ _ _ _ 1 _ rfl rfl rfl (by kernel_rfl) rfl (by decide) rfl
  refine allocs3 ?_
  intro w1 _ hA1 hA2 hB1 _
  refine wp_loop_rounds 5 ?_
  rw [rounds_succ]
  go_wp2_with (with_reducible refine wpList_store_part rfl 87 (.tmp 19) (.tmp 18) rfl rfl (w.heap.size + 1 + 1) 0 (by kernel_rfl) [.int .i64 x0, .int .i64 y0] (by kernel_rfl) 89 [.int .i64 0, .int .i64 0, .int .i64 0, .int .i64 0, .int .i64 0, .int .i64 0, .int .i64 0, .int .i64 0] hA2 (by simp) (by kernel_rfl) (by simp [Value.oneCell']) ?_)
  intro w2 hA hU
  replace hA2 : At w2 (w.heap.size + 1 + 1) 89 [.int .i64 x0, .int .i64 y0, .int .i64 0, .int .i64 0, .int .i64 0, .int .i64 0, .int .i64 0, .int .i64 0] := hA
  replace hA1 := hA1.upd hU (by simp)
  replace hB1 := step_upd hB1 hU (by omega)
  clear hA hU
  go_wp2_with fail
  rw [rounds_succ]
  go_wp2_with (with_reducible refine wpList_store_part rfl 87 (.tmp 19) (.tmp 18) rfl rfl (w.heap.size + 1 + 1) 2 (by kernel_rfl) [.int .i64 x1, .int .i64 y1] (by kernel_rfl) 89 [.int .i64 x0, .int .i64 y0, .int .i64 0, .int .i64 0, .int .i64 0, .int .i64 0, .int .i64 0, .int .i64 0] hA2 (by simp) (by kernel_rfl) (by simp [Value.oneCell']) ?_)
  intro w3 hA hU
  replace hA2 : At w3 (w.heap.size + 1 + 1) 89 [.int .i64 x0, .int .i64 y0, .int .i64 x1, .int .i64 y1, .int .i64 0, .int .i64 0, .int .i64 0, .int .i64 0] := hA
  replace hA1 := hA1.upd hU (by simp)
  replace hB1 := step_upd hB1 hU (by omega)
  clear hA hU
  go_wp2_with fail
  rw [rounds_succ]
  go_wp2_with (with_reducible refine wpList_store_part rfl 87 (.tmp 19) (.tmp 18) rfl rfl (w.heap.size + 1 + 1) 4 (by kernel_rfl) [.int .i64 x2, .int .i64 y2] (by kernel_rfl) 89 [.int .i64 x0, .int .i64 y0, .int .i64 x1, .int .i64 y1, .int .i64 0, .int .i64 0, .int .i64 0, .int .i64 0] hA2 (by simp) (by kernel_rfl) (by simp [Value.oneCell']) ?_)
  intro w4 hA hU
  replace hA2 : At w4 (w.heap.size + 1 + 1) 89 [.int .i64 x0, .int .i64 y0, .int .i64 x1, .int .i64 y1, .int .i64 x2, .int .i64 y2, .int .i64 0, .int .i64 0] := hA
  replace hA1 := hA1.upd hU (by simp)
  replace hB1 := step_upd hB1 hU (by omega)
  clear hA hU
  go_wp2_with fail
  rw [rounds_succ]
  go_wp2_with (with_reducible refine wpList_store_part rfl 87 (.tmp 19) (.tmp 18) rfl rfl (w.heap.size + 1 + 1) 6 (by kernel_rfl) [.int .i64 x3, .int .i64 y3] (by kernel_rfl) 89 [.int .i64 x0, .int .i64 y0, .int .i64 x1, .int .i64 y1, .int .i64 x2, .int .i64 y2, .int .i64 0, .int .i64 0] hA2 (by simp) (by kernel_rfl) (by simp [Value.oneCell']) ?_)
  intro w5 hA hU
  replace hA2 : At w5 (w.heap.size + 1 + 1) 89 [.int .i64 x0, .int .i64 y0, .int .i64 x1, .int .i64 y1, .int .i64 x2, .int .i64 y2, .int .i64 x3, .int .i64 y3] := hA
  replace hA1 := hA1.upd hU (by simp)
  replace hB1 := step_upd hB1 hU (by omega)
  clear hA hU
  go_wp2_with fail
  rw [rounds_succ]
  go_wp2_with (first
    | (with_reducible refine wpList_load_at rfl 89 (.tmp 3) rfl (w.heap.size + 1 + 1) (by kernel_rfl) 89 [.int .i64 x0, .int .i64 y0, .int .i64 x1, .int .i64 y1, .int .i64 x2, .int .i64 y2, .int .i64 x3, .int .i64 y3] hA2 _ Try.underlying89 rfl (by kernel_rfl) ?_)
    | (with_reducible refine wpList_store_row rfl 89 (.tmp 2) (.tmp 21) rfl rfl (w.heap.size + 1) (by kernel_rfl) [.int .i64 x0, .int .i64 y0, .int .i64 x1, .int .i64 y1, .int .i64 x2, .int .i64 y2, .int .i64 x3, .int .i64 y3] (by kernel_rfl) 89 [.int .i64 0, .int .i64 0, .int .i64 0, .int .i64 0, .int .i64 0, .int .i64 0, .int .i64 0, .int .i64 0] hA1 (by kernel_rfl) (by kernel_rfl) (by simp [Value.oneCell']) ?_))
  intro w9 hA9 hU
  replace hB1 := step_upd hB1 hU (by omega)
  clear hU
  go_wp2
  (try simp only [Exit.inBlock, Exit.then])
  refine bodyPost_ret (results_cell_at rfl _ _ (w.heap.size + 1) 89 _ hA9 _ (by kernel_rfl) Try.underlying89 rfl (by kernel_rfl)) rfl ?_
  exact ⟨rfl, hB1⟩
end Go.Proofs.Ytgkbpdcedighcac
