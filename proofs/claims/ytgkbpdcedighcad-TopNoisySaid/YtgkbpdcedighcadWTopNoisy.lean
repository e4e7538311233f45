/-
  The walk of the law TopNoisy.
-/
import Derived.Test.YtgkbpdcedighcadWaveV
import Derived.Test.YtgkbpdcedighcadOctet
import Derived.Test.YtgkbpdcedighcadOpenS
import Derived.Test.YtgkbpdcedighcadIndex
namespace Go.Proofs.Ytgkbpdcedighcad
open Go.RowKit Go.Sort NoiseP

theorem u8_or128 (b : Nat) (hb : b < 256) : bits .or .u8 128 (b : Int) = ((128 + b % 128 : Nat) : Int) := by
  have : ∀ b : Fin 256, bits .or .u8 128 ((b.val : Nat) : Int) = ((128 + b.val % 128 : Nat) : Int) := by decide +kernel
  exact this ⟨b, hb⟩
theorem u8_and127 (b : Nat) (hb : b < 256) : bits .and .u8 (b : Int) 127 = ((b % 128 : Nat) : Int) := by
  have : ∀ b : Fin 256, bits .and .u8 ((b.val : Nat) : Int) 127 = ((b.val % 128 : Nat) : Int) := by decide +kernel
  exact this ⟨b, hb⟩

/-- The slice (a, n) reads as the words z. -/
def WordsAt (w : World) (a : Option Addr) (n : Nat) (z : Nat → Int) : Prop :=
  ∀ i, i < n → (0 ≤ z i ∧ z i ≤ 65535) ∧ ∃ b off, a = some ⟨b, off, none⟩ ∧ b < w.heap.size ∧ w.cell? ⟨b, off + i, none⟩ = some (.int .u16 (z i))

set_option maxRecDepth 100000 in
set_option maxHeartbeats 8000000 in
theorem TopNoisy_walk (w : World) (f0 : Int) (hf0 : (Lit.int .u8 f0).wf = true) (a : Option Addr) (n cap : Nat) (F : Nat → List Value) (sl : SlR w a n cap 1 (IsInt .u16) F) (v0 : Int) (hv0 : (Lit.int .u8 v0).wf = true) :
    Calls Try.prog 5 #[.int .u8 f0, .slice a n cap, .int .u8 v0] w fun e w' => e = .returned (.bool true) ∧ Below w.heap.size w w' := by
  obtain ⟨hf1, hf2⟩ := wf_bounds_u8 hf0
  obtain ⟨hv1, hv2⟩ := wf_bounds_u8 hv0
  obtain ⟨f, rfl⟩ : ∃ s : Nat, f0 = (s : Int) := ⟨f0.toNat, by omega⟩
  obtain ⟨v, rfl⟩ : ∃ s : Nat, v0 = (s : Int) := ⟨v0.toNat, by omega⟩
  have hf : f < 256 := by omega
  have hv : v < 256 := by omega
  have HZ : Hid (∃ z, WordsAt w a n z) := Lib.hid (by
    obtain ⟨z, hz⟩ := sl.ints
    exact ⟨z, fun i hi => ⟨wf_bounds_u16 (hz i hi).1, (hz i hi).2⟩⟩)
  obtain ⟨z, hz⟩ := HZ.out
  replace HZ := Lib.hid hz
  have e1 := u8_or128 f hf
  have e2 := u8_and127 f hf
  have hq : 128 + f % 128 < 256 := by omega
  have hq2 : 128 ≤ 128 + f % 128 := by omega
  have hr : f % 128 < 128 := by omega
  generalize 128 + f % 128 = q at *
  generalize f % 128 = r at *
  clear sl hz hf0 hv0 hf1 hf2 hv1 hv2
  have hp := perI_pos q
  by_cases hlong : 60 < n
  · have hd : decide (60 < (n : Int)) = true := by rw [decide_eq_true_eq]; omega
    go_enter Try.func5, Try.ntmps5
    go_wp2_with fail
    refine (Bit_any 1 0 w (by omega) (by omega)).mono ?_
    rintro e _ ⟨rfl, rfl⟩
    rw [show bitB 1 0 = true by decide +kernel]
    go_wp2_with fail
    refine (WNew_any w).mono ?_
    rintro e w1 ⟨c, b, rfl, hb, hbc, hA1, hN1, hB1⟩
    go_wp2_with fail
    refine (New_any 0 w1 (by omega) (by omega)).mono ?_
    rintro e w2 ⟨x, rfl, hx, hX2, hB2⟩
    go_wp2
    go_ret
    exact ⟨rfl, step_below hB1 hB2⟩
  · have hd : decide (60 < (n : Int)) = false := by rw [decide_eq_false_iff_not]; omega
    go_enter Try.func5, Try.ntmps5
    go_wp2_with fail
    refine (Bit_any 1 0 w (by omega) (by omega)).mono ?_
    rintro e _ ⟨rfl, rfl⟩
    rw [show bitB 1 0 = true by decide +kernel]
    go_wp2_with fail
    refine (WNew_any w).mono ?_
    rintro e w1 ⟨c, b, rfl, hb, hbc, hA1, hN1, hB1⟩
    go_wp2_with fail
    refine (New_any 0 w1 (by omega) (by omega)).mono ?_
    rintro e w2 ⟨x, rfl, hx, hX2, hb2⟩
    have hA2 := hA1.below hb2 hA1.lt
    have hN2 := hN1.below hb2 hN1.lt
    have hB2 := step_below hB1 hb2
    have hcx : c < x := Nat.lt_of_lt_of_le hA1.lt hx
    have hcw : w.heap.size ≤ c := by omega
    have hxw : w.heap.size ≤ x := by omega
    clear hA1 hN1 hB1 hb2 hx
    go_wp2_with fail
    refine (Write6_wave c b 0 0 0 0 0 false _ 0 4096 w2 v hA2 (by omega) hv rfl (by omega)).mono ?_
    rintro e w3 ⟨rfl, hA3, hU3⟩
    have hN3 := hN2.upd hU3 (by omega)
    have hX3 := hX2.upd hU3 (by omega)
    have hB3 := step_upd hB2 hU3 hcw
    clear hA2 hN2 hX2 hU3 hB2
    go_wp2_with fail
    refine (Write7 c b 0 0 0 0 0 false _ _ 4096 w3 q 1 _ _ hA3 hN3 hq).mono ?_
    rintro e w4 ⟨rfl, hA4, hN4, hU4⟩
    rw [decide_eq_true hq2] at hA4
    have hX4 := hX3.upd hU4 (by omega)
    have hB4 := hU4.to hB3 hB3.size (fun k hk => by rcases hk with rfl | rfl <;> assumption)
    clear hA3 hN3 hX3 hU4 hB3
    go_wp2_with fail
    refine (Write4 c b 0 0 0 0 0 true _ _ 4096 w4 159 hA4 (by omega)).mono ?_
    rintro e w5 ⟨rfl, hA5, hU5⟩
    have hN5 := hN4.upd hU5 (by omega)
    have hX5 := hX4.upd hU5 (by omega)
    have hB5 := step_upd hB4 hU5 hcw
    clear hA4 hN4 hX4 hU5 hB4
    go_wp2_with fail
    refine (Set_any x 1 _ _ q w5 hX5 (by omega) (by omega)).mono ?_
    rintro e w6 ⟨rfl, hX6, hU6⟩
    have hA6 := hA5.upd hU6 (by omega)
    have hN6 := hN5.upd hU6 (by omega)
    have hB6 := step_upd hB5 hU6 hxw
    clear hA5 hN5 hX5 hU6 hB5
    rw [show (if 159 / 64 = 1 then 0 else (0 + 1) % 32) = 1 from rfl] at hA6
    generalize (fun i => if i = 0 then v % 32 else 0) = wv at *
    have HI : Hid (∃ (s : Nat) (l : Int) (pl : Nat) (lf : Int), At w6 c 94 (wz b 0 0 159 0 0 true wv pl lf) ∧ At w6 b 98 (nz s l (perI q)) ∧ At w6 x 98 (nz s l (perI q)) ∧ s < 262144 ∧ (1 ≤ l ∧ l ≤ 1984) ∧ pl < 32 ∧ (1 ≤ lf ∧ lf ≤ 4096)) :=
      Lib.hid ⟨1, _, 1, 4096, hA6, hN6, hX6, by omega, by decide, by omega, by omega⟩
    have HB := Lib.hid hB6
    clear hA6 hN6 hX6 hB6
    go_wp2_with fail
    go_loopw [9] (fun i wr => ∃ k : Nat, k ≤ n ∧ i = .int .i64 k ∧ Hid (∃ (s : Nat) (l : Int) (pl : Nat) (lf : Int), At wr c 94 (wz b 0 0 159 0 0 true wv pl lf) ∧ At wr b 98 (nz s l (perI q)) ∧ At wr x 98 (nz s l (perI q)) ∧ s < 262144 ∧ (1 ≤ l ∧ l ≤ 1984) ∧ pl < 32 ∧ (1 ≤ lf ∧ lf ≤ 4096)) ∧ Hid (Below w.heap.size w wr)) (fun i _ => n - (intOf i).toNat)
    case atStart => exact ⟨0, Nat.zero_le _, rfl, HI, HB⟩
    case round =>
      clear HI HB
      obtain ⟨k, hk, rfl, HI, HB⟩ := hrel
      obtain ⟨s, l, pl, lf, hA, hN, hX, hs, hl, hpl, hlf⟩ := HI.out
      by_cases hlt : k < n
      · obtain ⟨hzb, b2, off, rfl, hbw, hc0⟩ := HZ.out k hlt
        have hc := (HB.out.cell (p := ⟨b2, off + k, none⟩) hbw).trans hc0
        go_wp2_with fail
        refine (Go_noisy c b 0 0 159 0 0 wv pl lf wr s l (perI q) (z k) hA (by omega) (by omega) (by omega) hpl hlf (by omega) hN hs hl hp).mono ?_
        rintro e w7 ⟨rfl, hA7, hN7, hU7⟩
        have hX7 := hX.upd hU7 (by omega)
        have hB7 := hU7.to HB.out HB.out.size (fun k hk => by rcases hk with rfl | rfl <;> omega)
        have hc7 := (hB7.cell (p := ⟨b2, off + k, none⟩) hbw).trans hc0
        clear hU7 hA hN hX hc
        go_wp2_with fail
        refine (Go_any x s l (perI q) (z k) w7 hX7 hs hl hp (by omega)).mono ?_
        rintro e w8 ⟨rfl, hX8, hU8⟩
        have hA8 := hA7.upd hU8 (by omega)
        have hN8 := hN7.upd hU8 (by omega)
        have hB8 := step_upd hB7 hU8 hxw
        have hs8 := goS_lt s l (perI q) (z k) hs
        have hl8 : 1 ≤ goL l (perI q) (z k) ∧ goL l (perI q) (z k) ≤ 1984 := ⟨goL_pos l (perI q) (z k) hp.1, goL_le l (perI q) (z k) hzb.1 hp.1 hl.2 hp.2⟩
        have hpl8 := wgPl_lt 159 pl lf (perW 0 0) (z k) hpl
        have hlf8 := wgLf_le 159 lf (perW 0 0) (z k) hlf (perW_pos 0 0) hzb.1
        have hs9 : goS s l (perI q) (z k) < 4294967296 := by omega
        clear hU8 hX7 hA7 hN7 hB7 hc7 hc0
        generalize goS s l (perI q) (z k) = s8 at *
        generalize goL l (perI q) (z k) = l8 at *
        generalize wgPl 159 pl lf (perW 0 0) (z k) = pl8 at *
        generalize wgLf 159 lf (perW 0 0) (z k) = lf8 at *
        go_wp2_with fail
        refine (Level_w c b 0 0 159 0 0 true wv pl8 lf8 w8 s8 l8 _ hA8 hN8 (by omega) hs9 hpl8).mono ?_
        rintro e _ ⟨rfl, n1, rfl⟩
        rw [show lvW 159 0 true wv pl8 s8 = levN s8 from rfl]
        go_wp2_with fail
        refine (Level_any x s8 l8 _ (w8.drewN n1) (hX8.drewN n1) hs9).mono ?_
        rintro e _ ⟨rfl, rfl⟩
        have HI8 : Hid (∃ (s : Nat) (l : Int) (pl : Nat) (lf : Int), At (w8.drewN n1) c 94 (wz b 0 0 159 0 0 true wv pl lf) ∧ At (w8.drewN n1) b 98 (nz s l (perI q)) ∧ At (w8.drewN n1) x 98 (nz s l (perI q)) ∧ s < 262144 ∧ (1 ≤ l ∧ l ≤ 1984) ∧ pl < 32 ∧ (1 ≤ lf ∧ lf ≤ 4096)) :=
          Lib.hid ⟨s8, l8, pl8, lf8, hA8.drewN _, hN8.drewN _, hX8.drewN _, hs8, hl8, hpl8, hlf8⟩
        have HB8 : Hid (Below w.heap.size w (w8.drewN n1)) := Lib.hid ⟨hB8.os, hB8.tape, hB8.output, hB8.size, hB8.block⟩
        clear hA8 hN8 hX8 hB8
        generalize levN s8 = lv
        go_wp2
        go_round
        case rel => exact ⟨k + 1, by omega, by go_num, HI8, HB8⟩
        case measure => simp [intOf]; omega
      · obtain rfl : k = n := by omega
        go_wp2_with fail
        refine (Write7 c b 0 0 159 0 0 true wv pl lf wr r s l _ hA hN (by omega)).mono ?_
        rintro e w7 ⟨rfl, hA7, hN7, hU7⟩
        rw [show decide (128 ≤ r) = false by rw [decide_eq_false_iff_not]; omega] at hA7
        have hB7 := hU7.to HB.out HB.out.size (fun k hk => by rcases hk with rfl | rfl <;> omega)
        clear hU7 hA hN hX
        go_wp2_with fail
        refine (On_any c b 0 0 159 0 0 false wv pl lf w7 hA7 (by omega)).mono ?_
        rintro e _ ⟨rfl, rfl⟩
        rw [show decide (128 ≤ 159) = true from rfl]
        go_wp2_with fail
        refine (Level_w c b 0 0 159 0 0 false wv pl lf w7 s l _ hA7 hN7 (by omega) (by omega) hpl).mono ?_
        rintro e _ ⟨rfl, n1, rfl⟩
        rw [show lvW 159 0 false wv pl s = (wv pl : Int) from rfl]
        have hA8 := hA7.drewN n1
        have hB8 : Below w.heap.size w (w7.drewN n1) := ⟨hB7.os, hB7.tape, hB7.output, hB7.size, hB7.block⟩
        go_wp2_with fail
        refine (Wave_w c b 0 0 159 0 0 false wv pl lf (w7.drewN n1) hA8).mono ?_
        rintro e w9 ⟨rfl, hb9⟩
        have hA9 := hA8.below hb9 hA8.lt
        have hB9 := step_below hB8 hb9
        go_wp2_with fail
        refine (Place_any c b 0 0 159 0 0 false wv pl lf w9 hA9).mono ?_
        rintro e _ ⟨rfl, rfl⟩
        have hidx := fun w => index_one (P := Try.prog) 57 5 32 (wrow wv).toArray .i64 (pl : Int) _ 1 (.int .u8 (wv pl : Int)) rfl rfl rfl (by kernel_rfl) rfl (by omega) (by simp [wrow, rowF_get (f := fun i => Value.int .u8 (wv i : Int)) hpl]) w
        generalize ((wv pl : Nat) : Int) = y at *
        go_wp2_with fail
        refine (Volume_any c b 0 0 159 0 0 false wv pl lf w9 hA9 (by omega)).mono ?_
        rintro e _ ⟨rfl, rfl⟩
        go_wp2
        go_ret
        exact ⟨rfl, hB9⟩
end Go.Proofs.Ytgkbpdcedighcad
