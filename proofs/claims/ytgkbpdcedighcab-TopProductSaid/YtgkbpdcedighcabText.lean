/-
  The walk of flags.Text.
-/
import Derived.Test.YtgkbpdcedighcabFlags
import Derived.Test.YtgkbpdcedighcabRow
import Derived.Laws.BytesArg
namespace Go.Proofs.Ytgkbpdcedighcab
open Go.RowKit Go.Sort

def namesL : List Int := [78, 86, 84, 66, 68, 73, 90, 67]
def u8L (xs : List Int) : List Value := xs.map (Value.int .u8)

theorem u8L_one (xs : List Int) : ∀ v ∈ u8L xs, v.oneCell' = true := by
  intro v hv
  obtain ⟨i, _, rfl⟩ := List.mem_map.1 hv
  rfl

set_option maxHeartbeats 1000000 in
theorem names_any (w : World) : Calls Try.prog 66 #[] w fun e w' => e = .returned (.agg (u8L namesL).toArray) ∧ Below w.heap.size w w' := by
  have hA : At (w.alloc (.cells #[.int .u8 0, .int .u8 0, .int .u8 0, .int .u8 0, .int .u8 0, .int .u8 0, .int .u8 0, .int .u8 0] 96)) w.heap.size 96 (u8L [0, 0, 0, 0, 0, 0, 0, 0]) := At.new w _ _
  have hB : Below w.heap.size w (w.alloc (.cells #[.int .u8 0, .int .u8 0, .int .u8 0, .int .u8 0, .int .u8 0, .int .u8 0, .int .u8 0, .int .u8 0] 96)) := (Below.refl _ w).alloc (Nat.le_refl _) _
  go_enter Try.func66, Try.ntmps66
  go_wp2_with (with_reducible refine wpList_store_row rfl 96 (.tmp 0) (.tmp 1) rfl rfl w.heap.size (by kernel_rfl) (u8L namesL) (by kernel_rfl) 96 (u8L [0, 0, 0, 0, 0, 0, 0, 0]) hA (by kernel_rfl) (by kernel_rfl) (u8L_one _) ?_)
  intro w2 hA2 hU2
  have hB2 : Below w.heap.size w w2 := step_upd hB hU2 (Nat.le_refl _)
  go_wp2
  (try simp only [Exit.inBlock, Exit.then])
  refine bodyPost_ret (results_cell_at rfl _ _ w.heap.size 96 _ hA2 _ (by kernel_rfl) Try.underlying96 rfl (by kernel_rfl)) rfl ?_
  exact ⟨rfl, hB2⟩

theorem pw128 (k : Nat) (hk : k < 8) : ∃ f : Nat, f < 256 ∧ (128 : Int) / 2 ^ k = (f : Int) ∧ f = 128 / 2 ^ k := by
  have : ∀ k : Fin 8, 128 / 2 ^ k.val < 256 := by decide +kernel
  refine ⟨(128 : Nat) / 2 ^ k, this ⟨k, hk⟩, ?_, rfl⟩
  rw [Int.natCast_ediv, Int.natCast_pow]
  rfl

set_option maxRecDepth 8000 in
set_option maxHeartbeats 1000000 in
theorem Text_any (p : Nat) (w : World) (hp : p < 256) : Calls Try.prog 30 #[.int .u8 (p : Int)] w fun e w' => (∃ xs : List Int, xs.length = 8 ∧ e = .returned (.string (strOfNums xs))) ∧ Below w.heap.size w w' := by
  go_enter Try.func30, Try.ntmps30
  go_wp2_with fail
  refine (names_any w).mono ?_
  rintro e w1 ⟨rfl, hB1⟩
  have hle := hB1.size
  obtain ⟨b, hb⟩ : ∃ b, b = w1.heap.size := ⟨_, rfl⟩
  have hA1 : At (w1.alloc (.cells #[.int .u8 0, .int .u8 0, .int .u8 0, .int .u8 0, .int .u8 0, .int .u8 0, .int .u8 0, .int .u8 0] 96)) b 96 (u8L [0, 0, 0, 0, 0, 0, 0, 0]) := hb ▸ At.new w1 _ _
  have hB2 : Below w.heap.size w (w1.alloc (.cells #[.int .u8 0, .int .u8 0, .int .u8 0, .int .u8 0, .int .u8 0, .int .u8 0, .int .u8 0, .int .u8 0] 96)) := hB1.alloc hle _
  have hbw : w.heap.size ≤ b := by omega
  go_wp2_with (with_reducible refine wpList_store_row rfl 96 (.tmp 3) (.tmp 5) rfl rfl b (by rw [hb]; kernel_rfl) (u8L namesL) (by kernel_rfl) 96 (u8L [0, 0, 0, 0, 0, 0, 0, 0]) hA1 (by kernel_rfl) (by kernel_rfl) (u8L_one _) ?_)
  intro w2 hA2 hU2
  have HB := Lib.hid (step_upd hB2 hU2 hbw)
  have HA2 := Lib.hid hA2
  clear hA1 hA2 hU2 hB1 hB2
  rw [← hb]
  clear hb hle
  go_wp2_with fail
  go_loopw [6] (fun i wr => ∃ k : Nat, k ≤ 8 ∧ i = .int .i64 k ∧ Hid (∃ xs : List Int, xs.length = 8 ∧ At wr b 96 (u8L xs)) ∧ Hid (Below w.heap.size w wr)) (fun i _ => 8 - (intOf i).toNat)
  case atStart => exact ⟨0, by omega, rfl, Lib.hid ⟨_, rfl, HA2.out⟩, HB⟩
  case round =>
    obtain ⟨k, hk, rfl, HX, HW⟩ := hrel
    by_cases hlt : k < 8
    · obtain ⟨f, hf, e1, -⟩ := pw128 k hlt
      go_wp2_with fail
      refine (FIs_any p f wr hp hf).mono ?_
      rintro e _ ⟨rfl, rfl⟩
      cases isN p f
      · obtain ⟨xs, hx, hA⟩ := HX.out
        have hc := hA.cell k (v := .int .u8 xs[k]) (by simp [u8L, List.getElem?_eq_getElem (show k < xs.length by omega)])
        have hfz := hA.frozen k
        go_wp2
        go_round
        case rel =>
          refine ⟨k + 1, by omega, by go_num, Lib.hid ⟨xs.set k 46, by simp [hx], ?_⟩, Lib.hid (step_upd HW.out ((Upd.refl _ _).here _) hbw)⟩
          exact (hA.set k _).of_eq (by simp [u8L, List.map_set])
        case measure => simp [intOf]; omega
      · go_wp2
        go_round
        case rel => exact ⟨k + 1, by omega, by go_num, HX, HW⟩
        case measure => simp [intOf]; omega
    · obtain rfl : k = 8 := by omega
      obtain ⟨xs, hx, hA⟩ := HX.out
      have hcv := run_convert_bytes_arg (P := Try.prog) wr 98 5 rfl rfl b 0 8 8 xs hx (fun i hi => by
        rw [Nat.zero_add]
        exact hA.cell i (by simp [u8L, List.getD, List.getElem?_eq_getElem (show i < xs.length by omega)])) 9 rfl
      go_wp2
      go_ret
      exact ⟨⟨xs, hx, rfl⟩, HW.out⟩
end Go.Proofs.Ytgkbpdcedighcab
