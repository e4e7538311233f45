/-
  The walk of wave.Channel's Clone.
-/
import Derived.Test.YtgkbpdcedighcacWaveG
import Derived.Test.YtgkbpdcedighcacNoiseMC
namespace Go.Proofs.Ytgkbpdcedighcac
open Go.RowKit Go.Sort NoiseP

theorem wz_one (b fr : Nat) (be : Int) (co ba to : Nat) (ny : Bool) (wv : Nat → Nat) (pl : Nat) (lf : Int) : ∀ v ∈ wz b fr be co ba to ny wv pl lf, v.oneCell' = true := by
  intro v hv
  simp only [wz, List.mem_cons, List.mem_append, rowF, List.mem_map, List.not_mem_nil, or_false] at hv
  rcases hv with rfl | rfl | rfl | rfl | rfl | rfl | rfl | ⟨_, _, rfl⟩ | rfl | rfl <;> rfl

set_option maxRecDepth 100000 in
set_option maxHeartbeats 2000000 in
theorem Clone_w (c b fr : Nat) (be : Int) (co ba to : Nat) (ny : Bool) (wv : Nat → Nat) (pl : Nat) (lf : Int) (s : Nat) (l p : Int) (w : World) (hA : At w c 138 (wz b fr be co ba to ny wv pl lf)) (hN : At w b 175 (nz s l p)) :
    Calls Try.prog 36 #[.pointer (some ⟨c, 0, none⟩)] w fun e w' => ∃ c2 b2, e = .returned (.pointer (some ⟨c2, 0, none⟩)) ∧ w.heap.size ≤ c2 ∧ w.heap.size ≤ b2 ∧ At w' c2 138 (wz b2 fr be co ba to ny wv pl lf) ∧ At w' b2 175 (nz s l p) ∧ Below w.heap.size w w' := by
  have HA := Lib.hid hA
  have HN := Lib.hid hN
  clear hA hN
  go_enter Try.func36, Try.ntmps36
  go_wp2_with fail
  refine (is_any c b fr be co ba to ny wv pl lf w HA.out).mono ?_
  rintro e _ ⟨rfl, rfl⟩
  have hA := HA.out
  have hnew : At (w.alloc (.cells #[.pointer none, .int .i64 0, .int .i64 0, .int .u8 0, .int .u8 0, .int .u8 0, .bool false, .int .u8 0, .int .u8 0, .int .u8 0, .int .u8 0, .int .u8 0, .int .u8 0, .int .u8 0, .int .u8 0, .int .u8 0, .int .u8 0, .int .u8 0, .int .u8 0, .int .u8 0, .int .u8 0, .int .u8 0, .int .u8 0, .int .u8 0, .int .u8 0, .int .u8 0, .int .u8 0, .int .u8 0, .int .u8 0, .int .u8 0, .int .u8 0, .int .u8 0, .int .u8 0, .int .u8 0, .int .u8 0, .int .u8 0, .int .u8 0, .int .u8 0, .int .u8 0, .int .i64 0, .int .i64 0] 138)) w.heap.size 138 [.pointer none, .int .i64 0, .int .i64 0, .int .u8 0, .int .u8 0, .int .u8 0, .bool false, .int .u8 0, .int .u8 0, .int .u8 0, .int .u8 0, .int .u8 0, .int .u8 0, .int .u8 0, .int .u8 0, .int .u8 0, .int .u8 0, .int .u8 0, .int .u8 0, .int .u8 0, .int .u8 0, .int .u8 0, .int .u8 0, .int .u8 0, .int .u8 0, .int .u8 0, .int .u8 0, .int .u8 0, .int .u8 0, .int .u8 0, .int .u8 0, .int .u8 0, .int .u8 0, .int .u8 0, .int .u8 0, .int .u8 0, .int .u8 0, .int .u8 0, .int .u8 0, .int .i64 0, .int .i64 0] := At.new w _ _
  have hbn : Below w.heap.size w (w.alloc (.cells #[.pointer none, .int .i64 0, .int .i64 0, .int .u8 0, .int .u8 0, .int .u8 0, .bool false, .int .u8 0, .int .u8 0, .int .u8 0, .int .u8 0, .int .u8 0, .int .u8 0, .int .u8 0, .int .u8 0, .int .u8 0, .int .u8 0, .int .u8 0, .int .u8 0, .int .u8 0, .int .u8 0, .int .u8 0, .int .u8 0, .int .u8 0, .int .u8 0, .int .u8 0, .int .u8 0, .int .u8 0, .int .u8 0, .int .u8 0, .int .u8 0, .int .u8 0, .int .u8 0, .int .u8 0, .int .u8 0, .int .u8 0, .int .u8 0, .int .u8 0, .int .u8 0, .int .i64 0, .int .i64 0] 138)) := (Below.refl _ w).alloc (Nat.le_refl _) _
  go_wp2_with (first
    | (with_reducible refine wpList_load_at_w (by kernel_rfl) 138 (.tmp 8) rfl c rfl 138 (wz b fr be co ba to ny wv pl lf) hA _ Try.underlying138 rfl (by kernel_rfl) ?_)
    | (with_reducible refine wpList_store_row rfl 138 (.tmp 3) (.tmp 9) rfl rfl w.heap.size (by kernel_rfl) (wz b fr be co ba to ny wv pl lf) (by kernel_rfl) 138 _ hnew (by kernel_rfl) (by kernel_rfl) (wz_one b fr be co ba to ny wv pl lf) ?_))
  intro w2 hA2 hU2
  have hB2 := step_upd hbn hU2 (Nat.le_refl _)
  clear hbn hnew hU2 hA
  have hN2 := HN.out.below hB2 HN.out.lt
  have hA1 := HA.out.below hB2 HA.out.lt
  have c0 := hA1.cell 0 rfl
  have HA2 := Lib.hid hA2
  clear hA2
  go_wp2_with fail
  refine (Clone_any b s l p w2 hN2).mono ?_
  rintro e w3 ⟨b2, rfl, hb2, hN3, hB3⟩
  have hA3 := HA2.out.below hB3 HA2.out.lt
  have HB3 := Lib.hid (step_below hB2 hB3)
  have hne : b2 ≠ w.heap.size := by have := HA2.out.lt; omega
  have hs2 : w.heap.size ≤ b2 := by have := HA2.out.lt; omega
  have HA3 := Lib.hid hA3
  have HN3 := Lib.hid hN3
  have f0 := hA3.frozen 0
  have c0 := hA3.cell 0 rfl
  clear hA3 hN3 hB3 HA2 hN2 hA1 hB2
  go_wp2
  go_ret
  refine ⟨w.heap.size, b2, rfl, Nat.le_refl _, hs2, ?hA, ?hN, ?hB⟩
  case hA =>
    (apply At.of_eq; (repeat (first | (with_reducible apply At.set) | (with_reducible apply At.drew) | (with_reducible apply At.drewN) | exact HA3.out)); rfl)
  case hN => exact HN3.out.upd ((Upd.refl (· = w.heap.size) w3).here _) hne
  case hB => exact step_upd HB3.out ((Upd.refl (· = w.heap.size) w3).here _) (Nat.le_refl _)
end Go.Proofs.Ytgkbpdcedighcac
