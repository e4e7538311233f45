/-
  The walk of the law 16's live.
-/
import Derived.Test.YtgkbpdcedighcacMixO
import Derived.Test.YtgkbpdcedighcacMixU
namespace Go.Proofs.Ytgkbpdcedighcac
open Go.RowKit Go.Sort NoiseP

def liveP : PS := (((PS.new.wr 1 255).wr 4 223).wr 5 240).wr 6 31
theorem liveP_left : liveP.left = 126976 := by decide +kernel
theorem liveP_right : liveP.right = 31 * powZ 30 := by decide +kernel

set_option maxRecDepth 100000 in
set_option maxHeartbeats 4000000 in
theorem live16_any (w : World) : Calls Try.prog 15 #[] w fun e w' => e = .returned (.bool true) ∧ Below w.heap.size w w' := by
  have h1 := One_any ⟨31, 31, 15, 15⟩ 15 15 w ⟨by decide, by decide, by decide, by decide⟩ (by omega) (by omega)
  rw [show (Vo.mk 31 31 15 15).l 15 = 126976 by decide +kernel, show (Vo.mk 31 31 15 15).r 15 = 126976 by decide +kernel] at h1
  go_enter Try.func15, Try.ntmps15
  go_wp2_with fail
  refine h1.mono ?_
  rintro e w1 ⟨rfl, hB1⟩
  clear h1
  go_wp2_with fail
  refine (Middle_good 6 2 w1 (by unfold midBad; omega)).mono ?_
  rintro e _ ⟨rfl, rfl⟩
  go_wp2_with fail
  refine (PNew_any w1).mono ?_
  rintro e w2 ⟨g, c, b, rfl, hG2, hg2, hb2⟩
  have hB2 := step_below hB1 hb2
  have hsz := hB1.size
  have hge : ∀ k, OwnP g c b k → w.heap.size ≤ k := fun k hk => Nat.le_trans hsz (hg2 k hk)
  clear hb2 hB1 hg2
  go_wp2_with fail
  refine (Write_P 1 255 g c b _ w2 hG2 PS.new_ok (by omega) (by omega)).mono ?_
  rintro e w3 ⟨rfl, hG3, hU3⟩
  have hB3 := hU3.to hB2 hB2.size hge
  clear hG2 hU3 hB2
  go_wp2_with fail
  refine (Write_P 4 223 g c b _ w3 hG3 (PS.wr_ok PS.new_ok _ (by omega)) (by omega) (by omega)).mono ?_
  rintro e w4 ⟨rfl, hG4, hU4⟩
  have hB4 := hU4.to hB3 hB3.size hge
  clear hG3 hU4 hB3
  go_wp2_with fail
  refine (Write_P 5 240 g c b _ w4 hG4 (PS.wr_ok (PS.wr_ok PS.new_ok _ (by omega)) _ (by omega)) (by omega) (by omega)).mono ?_
  rintro e w5 ⟨rfl, hG5, hU5⟩
  have hB5 := hU5.to hB4 hB4.size hge
  clear hG4 hU5 hB4
  go_wp2_with fail
  refine (Write_P 6 31 g c b _ w5 hG5 (PS.wr_ok (PS.wr_ok (PS.wr_ok PS.new_ok _ (by omega)) _ (by omega)) _ (by omega)) (by omega) (by omega)).mono ?_
  rintro e w6 ⟨rfl, hG6, hU6⟩
  have hB6 := hU6.to hB5 hB5.size hge
  have hof := Of_P g c b liveP w6 hG6 (PS.wr_ok (PS.wr_ok (PS.wr_ok (PS.wr_ok PS.new_ok _ (by omega)) _ (by omega)) _ (by omega)) _ (by omega))
  rw [liveP_left, liveP_right] at hof
  have hp30 := powZ_bd 30
  have h30 := fun w => Power_any 30 w
  have h5 := fun w => Power_any 5 w
  rw [show powZ 5 = 1722 by decide +kernel] at h5
  generalize powZ 30 = p30 at *
  clear hG5 hU6 hB5 hG6
  go_wp2_with fail
  refine hof.mono ?_
  rintro e w7 ⟨rfl, hb7⟩
  have hB7 := step_below hB6 hb7
  clear hof hb7 hB6
  go_wp2_with fail
  refine (Of_nil w7).mono ?_
  rintro e w8 ⟨rfl, hb8⟩
  have hB8 := step_below hB7 hb8
  clear hb8 hB7
  go_wp2_with fail
  refine (h5 w8).mono ?_
  rintro e w9 ⟨rfl, hb9⟩
  have hB9 := step_below hB8 hb9
  clear hb9 hB8
  go_wp2_with fail
  refine (h30 w9).mono ?_
  rintro e w10 ⟨rfl, hb10⟩
  have HB10 := Lib.hid (step_below hB9 hb10)
  clear hb10 hB9 h30 h5
  go_wp2
  go_ret
  exact ⟨rfl, HB10.out⟩
end Go.Proofs.Ytgkbpdcedighcac
