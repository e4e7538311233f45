/-
  '==' on the rows of layer 17; live.
-/
import Derived.Test.YtgkbpdcedighcabTurnV
import Derived.Test.YtgkbpdcedighcabTurnGB
import Derived.Test.YtgkbpdcedighcabTurnFW
import Derived.Test.YtgkbpdcedighcabTurnB
import Derived.Test.YtgkbpdcedighcabTurnH
import Derived.Test.YtgkbpdcedighcabTurnE
import Derived.Test.YtgkbpdcedighcabTurnQ
namespace Go.Proofs.Ytgkbpdcedighcab
open Go.RowKit Go.Sort

theorem eql4 (f g : Nat → Int) : (∀ w, (binOp .eql 24 (.agg (rowI 4 f).toArray) (.agg (rowI 4 g).toArray)).run Try.prog w = .ok (.bool (eqB f g 4)) w)
    ∧ (∀ w, (binOp .neq 24 (.agg (rowI 4 f).toArray) (.agg (rowI 4 g).toArray)).run Try.prog w = .ok (.bool (!eqB f g 4)) w) := by
  obtain ⟨inf, hi, _⟩ := info_parts infoInt
  refine eql_of_equal fun w => ?_
  rw [equal_ints w 9998 24 3 4 .i64 inf _ _ f g Try.underlying24 Try.underlying3 hi (by kernel_rfl) (fun i h => rowI_cell h) (fun i h => rowI_cell h)]
  rfl
theorem lv1 : rowI 8 (pI (binR (litF [1, 0, 0, 0]) 4)) = [.int .i64 1, .int .i64 0, .int .i64 1, .int .i64 0, .int .i64 1, .int .i64 0, .int .i64 1, .int .i64 0] := (rowI_eqB (g := litF [1, 0, 1, 0, 1, 0, 1, 0]) (by decide +kernel)).trans rfl
theorem lv2 : wrongZ (litF [1, 0, 0, 0]) 4 = 0 := by decide +kernel
theorem lv3 : rowI 8 (pI (binR (litF [0, 1]) 2)) = [.int .i64 1, .int .i64 0, .int .i64 0, .int .i64 (-1), .int .i64 (-1), .int .i64 0, .int .i64 0, .int .i64 1] := (rowI_eqB (g := litF [1, 0, 0, -1, -1, 0, 0, 1]) (by decide +kernel)).trans rfl
theorem lv4 : wrongZ (litF [0, 1]) 2 = 0 := by decide +kernel
theorem lv5 : rowI 4 (backV (litF [1, 0, 0, -1, -1, 0, 0, 1])) = [.int .i64 0, .int .i64 1, .int .i64 0, .int .i64 0] := (rowF_ext fun i hi => by rw [backV_c _ i hi]).trans ((rowI_eqB (f := backVC (litF [1, 0, 0, -1, -1, 0, 0, 1])) (g := litF [0, 1, 0, 0]) (by decide +kernel)).trans rfl)
theorem lv6 : backE (litF [1, 0, 0, -1, -1, 0, 0, 1]) = 0 := (backE_c _).trans (by decide +kernel)
theorem lvq1 (w : World) : (binOp .eql 23 (.agg #[.int .i64 1, .int .i64 0, .int .i64 1, .int .i64 0, .int .i64 1, .int .i64 0, .int .i64 1, .int .i64 0]) (.agg #[.int .i64 1, .int .i64 0, .int .i64 1, .int .i64 0, .int .i64 1, .int .i64 0, .int .i64 1, .int .i64 0])).run Try.prog w = .ok (.bool true) w := by
  have h := (eql8 (litF [1, 0, 1, 0, 1, 0, 1, 0]) (litF [1, 0, 1, 0, 1, 0, 1, 0])).1 w
  rw [eqB_same (fun _ _ => rfl)] at h
  exact h
theorem lvq2 (w : World) : (binOp .eql 23 (.agg #[.int .i64 1, .int .i64 0, .int .i64 0, .int .i64 (-1), .int .i64 (-1), .int .i64 0, .int .i64 0, .int .i64 1]) (.agg #[.int .i64 1, .int .i64 0, .int .i64 0, .int .i64 (-1), .int .i64 (-1), .int .i64 0, .int .i64 0, .int .i64 1])).run Try.prog w = .ok (.bool true) w := by
  have h := (eql8 (litF [1, 0, 0, -1, -1, 0, 0, 1]) (litF [1, 0, 0, -1, -1, 0, 0, 1])).1 w
  rw [eqB_same (fun _ _ => rfl)] at h
  exact h
theorem lvq3 (w : World) : (binOp .eql 24 (.agg #[.int .i64 0, .int .i64 1, .int .i64 0, .int .i64 0]) (.agg #[.int .i64 0, .int .i64 1, .int .i64 0, .int .i64 0])).run Try.prog w = .ok (.bool true) w := by
  have h := (eql4 (litF [0, 1, 0, 0]) (litF [0, 1, 0, 0])).1 w
  rw [eqB_same (fun _ _ => rfl)] at h
  exact h
theorem lvq4 (w : World) : (binOp .eql 22 (.agg #[.int .i64 (-992), .int .i64 0]) (.agg #[.int .i64 (-992), .int .i64 0])).run Try.prog w = .ok (.bool true) w := by
  have h := (eql2 (litF [-992, 0]) (litF [-992, 0])).1 w
  rw [eqB_same (fun _ _ => rfl)] at h
  exact h
def waveL (k : Nat) : Int × Int := binZ (waveZ fun _ => 0) k 32
theorem lv7 : (binZ (waveZ fun _ => 0) 0 32).1 = -992 ∧ (binZ (waveZ fun _ => 0) 0 32).2 = 0 := by decide +kernel

set_option maxRecDepth 100000 in
set_option maxHeartbeats 4000000 in
theorem live17_any (w : World) : Calls Try.prog 15 #[] w fun e w' => e = .returned (.bool true) ∧ Below w.heap.size w w' := by
  go_enter Try.func15, Try.ntmps15
  go_wp2_with fail
  refine allocs1 (F := fun w => Calls _ _ _ w _) ?_
  intro w1 hA1 hB1 _
  have hI1 : IntsAt w1 (some ⟨w.heap.size, 0, none⟩) 4 (litF [1, 0, 0, 0]) := ints_at (t := 3) hA1
  refine (Of_any _ 4 4 (litF [1, 0, 0, 0]) w1 hI1 (by omega)).mono ?_
  rintro e w2 ⟨rfl, hb2⟩
  rw [lv1, lv2]
  have hB2 := step_below hB1 hb2
  clear hA1 hI1 hB1 hb2
  go_wp2_with fail
  refine allocs2 (F := fun w => Calls _ _ _ w _) ?_
  intro w3 hA3 hA4 hb3 _
  have hI4 : IntsAt w3 (some ⟨w2.heap.size + 1, 0, none⟩) 2 (litF [0, 1]) := ints_at (t := 3) hA4
  have hB3 := step_below hB2 hb3
  refine (Of_any _ 2 2 (litF [0, 1]) w3 hI4 (by omega)).mono ?_
  rintro e w4 ⟨rfl, hb4⟩
  rw [lv3, lv4]
  replace hA3 := hA3.below hb4 hA3.lt
  have hB4 := step_below hB3 hb4
  clear hA4 hI4 hB3 hb4 hB2 hb3
  go_wp2_with fail
  refine allocs1 (F := fun w => Calls _ _ _ w _) ?_
  intro w5 hA5 hb5 _
  have hB5 := step_below hB4 hb5
  replace hA3 := hA3.below hb5 hA3.lt
  clear hB4 hb5
  refine (Back_turns (litF [1, 0, 0, -1, -1, 0, 0, 1]) w5).mono ?_
  rintro e w6 ⟨rfl, hb6⟩
  rw [lv5, lv6]
  replace hA3 := hA3.below hb6 hA3.lt
  replace hA5 := hA5.below hb6 hA5.lt
  have hB6 := step_below hB5 hb6
  clear hB5 hb6
  have q1 := lvq1
  have q2 := lvq2
  have q3 := lvq3
  have q4 := lvq4
  have r7 : ∀ o, At ((w6.alloc o).alloc (.cells #[.int .u8 0, .int .u8 0, .int .u8 0, .int .u8 0, .int .u8 0, .int .u8 0, .int .u8 0, .int .u8 0, .int .u8 0, .int .u8 0, .int .u8 0, .int .u8 0, .int .u8 0, .int .u8 0, .int .u8 0, .int .u8 0, .int .u8 0, .int .u8 0, .int .u8 0, .int .u8 0, .int .u8 0, .int .u8 0, .int .u8 0, .int .u8 0, .int .u8 0, .int .u8 0, .int .u8 0, .int .u8 0, .int .u8 0, .int .u8 0, .int .u8 0, .int .u8 0] 34)) (w6.heap.size + 1) 34 (rowF 32 fun _ => .int .u8 (((0 : Nat)) : Int)) := fun o => At.fresh _ _ _ _ (by simp)
  have r5 : ∀ o, At ((w6.alloc (.cells #[.int .i64 0, .int .i64 1, .int .i64 0, .int .i64 0] 24)).alloc o) w6.heap.size 24 [.int .i64 0, .int .i64 1, .int .i64 0, .int .i64 0] := fun o => (At.new w6 _ _).alloc o
  go_wp2_with (first
    | (with_reducible refine wpList_load_at_w (by kernel_rfl) 23 (.tmp 1) rfl w2.heap.size (by kernel_rfl) 23 [.int .i64 1, .int .i64 0, .int .i64 1, .int .i64 0, .int .i64 1, .int .i64 0, .int .i64 1, .int .i64 0] ((hA3.alloc _).alloc _) _ Try.underlying23 rfl (by kernel_rfl) ?_)
    | (with_reducible refine wpList_load_at_w (by kernel_rfl) 23 (.tmp 3) rfl w4.heap.size (by kernel_rfl) 23 [.int .i64 1, .int .i64 0, .int .i64 0, .int .i64 (-1), .int .i64 (-1), .int .i64 0, .int .i64 0, .int .i64 1] ((hA5.alloc _).alloc _) _ Try.underlying23 rfl (by kernel_rfl) ?_)
    | (with_reducible refine wpList_load_at_w (by kernel_rfl) 24 (.tmp 5) rfl w6.heap.size (by kernel_rfl) 24 [.int .i64 0, .int .i64 1, .int .i64 0, .int .i64 0] (r5 _) _ Try.underlying24 rfl (by kernel_rfl) ?_)
    | (with_reducible refine wpList_load_at_w (by kernel_rfl) 34 (.tmp 7) rfl (w6.heap.size + 1) (by kernel_rfl) 34 (rowF 32 fun _ => .int .u8 (((0 : Nat)) : Int)) (r7 _) _ Try.underlying34 rfl (by kernel_rfl) ?_))
  refine allocs2 (F := fun w => Calls _ _ _ w _) ?_
  intro w7 _ _ hb7 _
  refine (Wave_any (fun _ => 0) w7 (fun _ _ => by omega)).mono ?_
  rintro e w8 ⟨rfl, hb8⟩
  have hB8 := step_below (step_below hB6 hb7) hb8
  have hidx : ∀ w, (Instr.index 23 (.agg (rowI 8 (pI fun k => binZ (waveZ fun _ => 0) k 32)).toArray) (.int .i64 0)).run Try.prog w = .ok (.agg #[.int .i64 (-992), .int .i64 0]) w := fun w => by
    have h := index_agg (P := Try.prog) 23 22 4 (rowI 8 (pI fun k => binZ (waveZ fun _ => 0) k 32)).toArray .i64 0 _ 2 rfl rfl rfl (by kernel_rfl) (by omega) w
    rw [h]
    have e : (rowI 8 (pI fun k => binZ (waveZ fun _ => 0) k 32)).toArray.extract ((0 : Int).toNat * 2) ((0 : Int).toNat * 2 + 2) = #[.int .i64 (binZ (waveZ fun _ => 0) 0 32).1, .int .i64 (binZ (waveZ fun _ => 0) 0 32).2] := rfl
    rw [e, lv7.1, lv7.2]
  generalize (rowI 8 (pI fun k => binZ (waveZ fun _ => 0) k 32)).toArray = wv at *
  go_wp2
  go_ret
  exact ⟨rfl, hB8⟩
end Go.Proofs.Ytgkbpdcedighcab
