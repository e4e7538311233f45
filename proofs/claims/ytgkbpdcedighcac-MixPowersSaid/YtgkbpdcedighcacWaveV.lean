/-
  The walk of wave.Channel's Wave.
-/
import Derived.Test.YtgkbpdcedighcacWaveG
namespace Go.Proofs.Ytgkbpdcedighcac
open Go.RowKit Go.Sort NoiseP

def wrow (wv : Nat → Nat) : List Value := rowF 32 fun i => .int .u8 (wv i : Int)
theorem wrow_one (wv : Nat → Nat) : ∀ v ∈ wrow wv, v.oneCell' = true := rowF_all fun _ _ => rfl

set_option maxRecDepth 100000 in
set_option maxHeartbeats 2000000 in
theorem Wave_w (c b fr : Nat) (be : Int) (co ba to : Nat) (ny : Bool) (wv : Nat → Nat) (pl : Nat) (lf : Int) (w : World) (hA : At w c 138 (wz b fr be co ba to ny wv pl lf)) :
    Calls Try.prog 76 #[.pointer (some ⟨c, 0, none⟩)] w fun e w' => e = .returned (.agg (wrow wv).toArray) ∧ Below w.heap.size w w' := by
  have HA := Lib.hid hA
  clear hA
  go_enter Try.func76, Try.ntmps76
  go_wp2_with fail
  refine allocs1 (F := fun w => Calls _ _ _ w _) ?_
  intro w1 hA1 hB1 _
  replace hA1 : At w1 w.heap.size 66 (wrow fun _ => 0) := hA1
  have hA2 := HA.out.below hB1 HA.out.lt
  have hlt := HA.out.lt
  refine (is_any c b fr be co ba to ny wv pl lf w1 hA2).mono ?_
  rintro e _ ⟨rfl, rfl⟩
  go_wp2_with (first
    | (with_reducible refine wpList_load_part (by kernel_rfl) 66 (.tmp 9) rfl c 7 32 rfl 138 (wz b fr be co ba to ny wv pl lf) hA2 (by rw [wz_len]; omega) _ Try.underlying66 rfl (by kernel_rfl) (wrow wv) rfl ?_)
    | (with_reducible refine wpList_store_row rfl 66 (.tmp 2) (.tmp 10) rfl rfl w.heap.size (by kernel_rfl) (wrow wv) (by kernel_rfl) 66 (wrow fun _ => 0) hA1 (by kernel_rfl) (by kernel_rfl) (wrow_one _) ?_))
  intro w3 hA3 hU3
  have hB3 := step_upd hB1 hU3 (by omega)
  go_wp2
  (try simp only [Exit.inBlock, Exit.then])
  refine bodyPost_ret (results_cell_at rfl _ _ w.heap.size 66 _ hA3 _ (by kernel_rfl) Try.underlying66 rfl (by kernel_rfl)) rfl ?_
  exact ⟨rfl, hB3⟩
end Go.Proofs.Ytgkbpdcedighcac
