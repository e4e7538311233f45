/-
  The walk of turns.Strength.
-/
import Derived.Test.YtgkbpdcedighcabTurnG
namespace Go.Proofs.Ytgkbpdcedighcab
open Go.RowKit Go.Sort

def strI (X : Nat → Int × Int) (k : Nat) : Int := (X k).1 * (X k).1 + (X k).2 * (X k).2

theorem sq_le (x : Int) (h : -1073741824 ≤ x ∧ x ≤ 1073741824) : 0 ≤ x * x ∧ x * x ≤ 1152921504606846976 := by
  have h1 : x.natAbs ≤ 1073741824 := by omega
  have h2 : x.natAbs * x.natAbs ≤ 1073741824 * 1073741824 := Nat.mul_le_mul h1 h1
  have h3 : x * x = ((x.natAbs * x.natAbs : Nat) : Int) := by rw [Int.natAbs_mul_self]
  omega

set_option maxRecDepth 100000 in
set_option maxHeartbeats 4000000 in
theorem Strength_any (a : Option Addr) (n cap : Nat) (z : Nat → Int) (w : World) (hz : IntsAt w a n z) (hn : n ≤ 4611686018427387904) :
    Calls Try.prog 51 #[.slice a n cap] w fun e w' => e = .returned (.tuple #[.agg (rowI 4 (strI (binR z n))).toArray, .int .i64 (wrongZ z n)]) ∧ Below w.heap.size w w' := by
  have HZ := Lib.hid hz
  clear hz
  go_enter Try.func51, Try.ntmps51
  go_wp2_with fail
  refine allocs2 (F := fun w => Calls _ _ _ w _) ?_
  intro w1 hA0 hA1 hB1 _
  replace hA0 : At w1 w.heap.size 24 (rowI 4 fun _ => 0) := hA0
  replace hA1 : At w1 (w.heap.size + 1) 24 [.int .i64 0, .int .i64 0, .int .i64 0, .int .i64 0] := hA1
  refine (Of_any a n cap z w1 (HZ.out.step hB1) hn).mono ?_
  rintro e w2 ⟨rfl, hb2⟩
  have hA0' := hA0.below hb2 hA0.lt
  have hA1' := hA1.below hb2 hA1.lt
  have hB2 := step_below hB1 hb2
  clear hA0 hA1 hB1 hb2 HZ
  have hall := binR_all z n
  have HF : Hid (rowI 4 (strI (binR z n)) = rowI 4 (strI (binR z n))) := Lib.hid rfl
  rw [show rowI 8 (pI (binR z n)) = _ from pI_row _]
  generalize hX : binR z n = X at *
  generalize he : wrongZ z n = err at *
  have HErr := Lib.hid he
  clear he
  have HX := Lib.hid hX
  have hx0 := (hall 0).1
  have hy0 := (hall 0).2
  have hx1 := (hall 1).1
  have hy1 := (hall 1).2
  have hx2 := (hall 2).1
  have hy2 := (hall 2).2
  have hx3 := (hall 3).1
  have hy3 := (hall 3).2
  have HS : Hid (rowI 4 (strI X) = [.int .i64 ((X 0).1 * (X 0).1 + (X 0).2 * (X 0).2), .int .i64 ((X 1).1 * (X 1).1 + (X 1).2 * (X 1).2), .int .i64 ((X 2).1 * (X 2).1 + (X 2).2 * (X 2).2), .int .i64 ((X 3).1 * (X 3).1 + (X 3).2 * (X 3).2)]) := Lib.hid rfl
  clear hX HF hall
  generalize (X 0).1 = x0 at *
  generalize (X 0).2 = y0 at *
  generalize (X 1).1 = x1 at *
  generalize (X 1).2 = y1 at *
  generalize (X 2).1 = x2 at *
  generalize (X 2).2 = y2 at *
  generalize (X 3).1 = x3 at *
  generalize (X 3).2 = y3 at *
  have qx0 := sq_le x0 hx0
  have qy0 := sq_le y0 hy0
  have qx1 := sq_le x1 hx1
  have qy1 := sq_le y1 hy1
  have qx2 := sq_le x2 hx2
  have qy2 := sq_le y2 hy2
  have qx3 := sq_le x3 hx3
  have qy3 := sq_le y3 hy3
  go_wp2_with fail
  refine allocs1 ?_
  intro w3 hA2 hb3 hs3
  have hi : ∀ k : Nat, k < 4 → ∀ w, (Instr.index 23 (.agg #[.int .i64 x0, .int .i64 y0, .int .i64 x1, .int .i64 y1, .int .i64 x2, .int .i64 y2, .int .i64 x3, .int .i64 y3]) (.int .i64 (k : Int))).run Try.prog w = .ok (.agg (#[.int .i64 x0, .int .i64 y0, .int .i64 x1, .int .i64 y1, .int .i64 x2, .int .i64 y2, .int .i64 x3, .int .i64 y3].extract (k * 2) (k * 2 + 2))) w := fun k hk w =>
    index_agg 23 22 4 _ .i64 k _ 2 rfl rfl rfl (by kernel_rfl) (by omega) w
  have i0 : ∀ w, (Instr.index 23 (.agg #[.int .i64 x0, .int .i64 y0, .int .i64 x1, .int .i64 y1, .int .i64 x2, .int .i64 y2, .int .i64 x3, .int .i64 y3]) (.int .i64 0)).run Try.prog w = .ok (.agg #[.int .i64 x0, .int .i64 y0]) w := fun w => hi 0 (by omega) w
  have i1 : ∀ w, (Instr.index 23 (.agg #[.int .i64 x0, .int .i64 y0, .int .i64 x1, .int .i64 y1, .int .i64 x2, .int .i64 y2, .int .i64 x3, .int .i64 y3]) (.int .i64 1)).run Try.prog w = .ok (.agg #[.int .i64 x1, .int .i64 y1]) w := fun w => hi 1 (by omega) w
  have i2 : ∀ w, (Instr.index 23 (.agg #[.int .i64 x0, .int .i64 y0, .int .i64 x1, .int .i64 y1, .int .i64 x2, .int .i64 y2, .int .i64 x3, .int .i64 y3]) (.int .i64 2)).run Try.prog w = .ok (.agg #[.int .i64 x2, .int .i64 y2]) w := fun w => hi 2 (by omega) w
  have i3 : ∀ w, (Instr.index 23 (.agg #[.int .i64 x0, .int .i64 y0, .int .i64 x1, .int .i64 y1, .int .i64 x2, .int .i64 y2, .int .i64 x3, .int .i64 y3]) (.int .i64 3)).run Try.prog w = .ok (.agg #[.int .i64 x3, .int .i64 y3]) w := fun w => hi 3 (by omega) w
  clear hi
  have h3 := hA1'.below hb3 hA1'.lt
  have h4 := hA0'.below hb3 hA0'.lt
  have hB3 := step_below hB2 hb3
  refine wp_loop_rounds 5 ?_
  rw [rounds_succ]
  go_wp2_with (with_reducible refine wpList_store_cell rfl 3 (.tmp 31) (.tmp 30) rfl rfl (w.heap.size + 1) 0 rfl (.int .i64 (x0 * x0 + y0 * y0)) rfl 24 [.int .i64 0, .int .i64 0, .int .i64 0, .int .i64 0] (h3.alloc _) (by simp) (by kernel_rfl) rfl rfl ?_)
  intro w4 hA hU
  replace h3 : At w4 (w.heap.size + 1) 24 [.int .i64 (x0 * x0 + y0 * y0), .int .i64 0, .int .i64 0, .int .i64 0] := hA
  replace h4 := (h4.alloc _).upd hU (by simp)
  replace hB3 := step_upd (hB3.alloc hB3.size _) hU (by omega)
  clear hA hU
  go_wp2_with fail
  rw [rounds_succ]
  go_wp2_with (with_reducible refine wpList_store_cell rfl 3 (.tmp 31) (.tmp 30) rfl rfl (w.heap.size + 1) 1 rfl (.int .i64 (x1 * x1 + y1 * y1)) rfl 24 [.int .i64 (x0 * x0 + y0 * y0), .int .i64 0, .int .i64 0, .int .i64 0] (h3.alloc _) (by simp) (by kernel_rfl) rfl rfl ?_)
  intro w5 hA hU
  replace h3 : At w5 (w.heap.size + 1) 24 [.int .i64 (x0 * x0 + y0 * y0), .int .i64 (x1 * x1 + y1 * y1), .int .i64 0, .int .i64 0] := hA
  replace h4 := (h4.alloc _).upd hU (by simp)
  replace hB3 := step_upd (hB3.alloc hB3.size _) hU (by omega)
  clear hA hU
  go_wp2_with fail
  rw [rounds_succ]
  go_wp2_with (with_reducible refine wpList_store_cell rfl 3 (.tmp 31) (.tmp 30) rfl rfl (w.heap.size + 1) 2 rfl (.int .i64 (x2 * x2 + y2 * y2)) rfl 24 [.int .i64 (x0 * x0 + y0 * y0), .int .i64 (x1 * x1 + y1 * y1), .int .i64 0, .int .i64 0] (h3.alloc _) (by simp) (by kernel_rfl) rfl rfl ?_)
  intro w6 hA hU
  replace h3 : At w6 (w.heap.size + 1) 24 [.int .i64 (x0 * x0 + y0 * y0), .int .i64 (x1 * x1 + y1 * y1), .int .i64 (x2 * x2 + y2 * y2), .int .i64 0] := hA
  replace h4 := (h4.alloc _).upd hU (by simp)
  replace hB3 := step_upd (hB3.alloc hB3.size _) hU (by omega)
  clear hA hU
  go_wp2_with fail
  rw [rounds_succ]
  go_wp2_with (with_reducible refine wpList_store_cell rfl 3 (.tmp 31) (.tmp 30) rfl rfl (w.heap.size + 1) 3 rfl (.int .i64 (x3 * x3 + y3 * y3)) rfl 24 [.int .i64 (x0 * x0 + y0 * y0), .int .i64 (x1 * x1 + y1 * y1), .int .i64 (x2 * x2 + y2 * y2), .int .i64 0] (h3.alloc _) (by simp) (by kernel_rfl) rfl rfl ?_)
  intro w7 hA hU
  replace h3 : At w7 (w.heap.size + 1) 24 [.int .i64 (x0 * x0 + y0 * y0), .int .i64 (x1 * x1 + y1 * y1), .int .i64 (x2 * x2 + y2 * y2), .int .i64 (x3 * x3 + y3 * y3)] := hA
  replace h4 := (h4.alloc _).upd hU (by simp)
  replace hB3 := step_upd (hB3.alloc hB3.size _) hU (by omega)
  clear hA hU
  go_wp2_with fail
  rw [rounds_succ]
  go_wp2_with (first
    | (with_reducible refine wpList_load_at rfl 24 (.tmp 4) rfl (w.heap.size + 1) (by kernel_rfl) 24 [.int .i64 (x0 * x0 + y0 * y0), .int .i64 (x1 * x1 + y1 * y1), .int .i64 (x2 * x2 + y2 * y2), .int .i64 (x3 * x3 + y3 * y3)] h3 _ Try.underlying24 rfl (by kernel_rfl) ?_)
    | (with_reducible refine wpList_store_row rfl 24 (.tmp 2) (.tmp 33) rfl rfl w.heap.size (by kernel_rfl) [.int .i64 (x0 * x0 + y0 * y0), .int .i64 (x1 * x1 + y1 * y1), .int .i64 (x2 * x2 + y2 * y2), .int .i64 (x3 * x3 + y3 * y3)] (by kernel_rfl) 24 (rowI 4 fun _ => 0) h4 (by kernel_rfl) (by kernel_rfl) (by simp [Value.oneCell']) ?_))
  intro w9 hA9 hU
  replace hB3 := step_upd hB3 hU (by omega)
  clear hU
  go_wp2
  (try simp only [Exit.inBlock, Exit.then])
  refine bodyPost_ret (results_cell_at2 rfl _ _ w.heap.size 24 _ hA9 _ (by kernel_rfl) Try.underlying24 rfl (by kernel_rfl)) rfl ?_
  exact ⟨by rw [HX.out, HErr.out, HS.out]; rfl, hB3⟩
end Go.Proofs.Ytgkbpdcedighcab
