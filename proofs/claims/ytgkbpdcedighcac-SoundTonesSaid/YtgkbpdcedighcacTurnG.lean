/-
  The walks of turns.Of, the reference's Bins.
-/
import Derived.Test.YtgkbpdcedighcacTurnF
import Derived.Test.YtgkbpdcedighcacTurnX
namespace Go.Proofs.Ytgkbpdcedighcac
open Go.RowKit Go.Sort

def binR (z : Nat → Int) (n k : Nat) : Int × Int := if wrongZ z n = 0 then binZ z k n else (0, 0)
def pI (X : Nat → Int × Int) (i : Nat) : Int := if i % 2 = 0 then (X (i / 2)).1 else (X (i / 2)).2
theorem pI_row (X : Nat → Int × Int) : rowI 8 (pI X) = [.int .i64 (X 0).1, .int .i64 (X 0).2, .int .i64 (X 1).1, .int .i64 (X 1).2, .int .i64 (X 2).1, .int .i64 (X 2).2, .int .i64 (X 3).1, .int .i64 (X 3).2] := rfl
theorem binZ_all {z : Nat → Int} {n : Nat} (h : wrongZ z n = 0) (k : Nat) : (-1073741824 ≤ (binZ z k n).1 ∧ (binZ z k n).1 ≤ 1073741824) ∧ (-1073741824 ≤ (binZ z k n).2 ∧ (binZ z k n).2 ≤ 1073741824) := by
  obtain ⟨h1, h2⟩ := wrongZ_zero h
  have := binZ_le z k 262144 n h2
  omega
theorem binR_all (z : Nat → Int) (n k : Nat) : (-1073741824 ≤ (binR z n k).1 ∧ (binR z n k).1 ≤ 1073741824) ∧ (-1073741824 ≤ (binR z n k).2 ∧ (binR z n k).2 ≤ 1073741824) := by
  unfold binR
  split
  · rename_i h; exact binZ_all h k
  · simp

set_option maxRecDepth 100000 in
set_option maxHeartbeats 2000000 in
theorem Of_any (a : Option Addr) (n cap : Nat) (z : Nat → Int) (w : World) (hz : IntsAt w a n z) (hn : n ≤ 4611686018427387904) :
    Calls Try.prog 100 #[.slice a n cap] w fun e w' => e = .returned (.tuple #[.agg (rowI 8 (pI (binR z n))).toArray, .int .i64 (wrongZ z n)]) ∧ Below w.heap.size w w' := by
  have HZ := Lib.hid hz
  clear hz
  go_enter Try.func100, Try.ntmps100
  go_wp2_with fail
  refine allocs1 (F := fun w => Calls _ _ _ w _) ?_
  intro w1 hA0 hB1 _
  replace hA0 : At w1 w.heap.size 89 (rowI 8 fun _ => 0) := hA0
  refine (Wrong_any a n cap z w1 (HZ.out.step hB1) hn).mono ?_
  rintro e _ ⟨rfl, rfl⟩
  have HA0 := Lib.hid hA0
  have HB1 := Lib.hid hB1
  clear hA0 hB1
  by_cases h0 : wrongZ z n = 0
  · have HF : Hid (rowI 8 (pI (binR z n)) = rowI 8 (pI fun k => binZ z k n)) := Lib.hid (by unfold rowI; congr 1; funext i; simp only [pI, binR, if_pos h0])
    have hN := wrongZ_zero h0
    have HW := Lib.hid h0
    have hall := Lib.hid (binZ_all h0)
    rw [h0]
    clear h0
    go_wp2_with fail
    refine (tof_any a n cap z w1 (HZ.out.step HB1.out) hN.1 hN.2).mono ?_
    rintro e w2 ⟨⟨vs, rfl, hvs⟩, hb2⟩
    have HA2 := Lib.hid (HA0.out.below hb2 HA0.out.lt)
    have HB2 := Lib.hid (step_below HB1.out hb2)
    clear hb2 HA0 HB1 hN
    go_wp2_with fail
    refine (parts_any vs (fun k => binZ z k n) w2 hvs (fun k _ => by have := hall.out k; omega)).mono ?_
    rintro e w3 ⟨rfl, hb3⟩
    have hA3 := HA2.out.below hb3 HA2.out.lt
    have hB3 := step_below HB2.out hb3
    clear hb3 HA2 HB2 hvs hall
    go_wp2_with (with_reducible refine wpList_store_row rfl 89 (.tmp 2) (.tmp 13) rfl rfl w.heap.size (by kernel_rfl) (rowI 8 (pI fun k => binZ z k n)) (by kernel_rfl) 89 (rowI 8 fun _ => 0) hA3 (by kernel_rfl) (by kernel_rfl) (rowI_one _ _) ?_)
    intro w5 hA5 hU5
    have h5 : Below w.heap.size w w5 := step_upd hB3 hU5 (by omega)
    clear hU5
    go_wp2
    (try simp only [Exit.inBlock, Exit.then])
    refine bodyPost_ret (results_cell_at2 rfl _ _ w.heap.size 89 _ hA5 _ (by kernel_rfl) Try.underlying89 rfl (by kernel_rfl)) rfl ?_
    exact ⟨by rw [HF.out, HW.out]; rfl, h5⟩
  · have HF : Hid (rowI 8 (pI (binR z n)) = rowI 8 fun _ => 0) := Lib.hid (by unfold rowI; congr 1; funext i; simp only [pI, binR, if_neg h0, ite_self])
    generalize hx : wrongZ z n = x at h0 ⊢
    have HX := Lib.hid hx
    clear hx
    have h1 : (x != 0) = true := by simpa using h0
    go_wp2_with (with_reducible refine wpList_store_row rfl 89 (.tmp 2) (.tmp 9) rfl rfl w.heap.size (by kernel_rfl) (rowI 8 fun _ => 0) (by kernel_rfl) 89 (rowI 8 fun _ => 0) HA0.out (by kernel_rfl) (by kernel_rfl) (rowI_one _ _) ?_)
    intro w5 hA5 hU5
    have h5 : Below w.heap.size w w5 := step_upd HB1.out hU5 (by omega)
    clear hU5
    go_wp2
    (try simp only [Exit.inBlock, Exit.then])
    refine bodyPost_ret (results_cell_at2 rfl _ _ w.heap.size 89 _ hA5 _ (by kernel_rfl) Try.underlying89 rfl (by kernel_rfl)) rfl ?_
    exact ⟨by rw [HF.out, HX.out]; rfl, h5⟩

/-- The reference's bins. -/
def binF (f : Nat → Int) : Nat → Int
  | 0 => f 0 + f 1 + f 2 + f 3
  | 1 => 0
  | 2 => f 0 - f 2
  | 3 => f 3 - f 1
  | 4 => f 0 - f 1 + f 2 - f 3
  | 5 => 0
  | 6 => f 0 - f 2
  | _ => f 1 - f 3

end Go.Proofs.Ytgkbpdcedighcac
