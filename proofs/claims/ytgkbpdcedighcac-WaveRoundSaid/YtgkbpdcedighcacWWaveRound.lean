/-
  The walk of the law WaveRound.
-/
import Derived.Test.YtgkbpdcedighcacWaveL
import Derived.Test.YtgkbpdcedighcacOpenA
namespace Go.Proofs.Ytgkbpdcedighcac
open Go.RowKit Go.Sort NoiseP

set_option maxRecDepth 100000 in
theorem WaveRound_0_arg {H : Type} {enc : TypeId × Value → H} {w : World} {base : Nat} {spare : Nat → Bool} {held : Bool} {r : Reach} {b0 : Nat} {v : Value} {d : DataW H} {p : List MemPlace}
    (hv : Value.okWide Try.prog w r b0 66 v) (h : DataW.Trod enc Try.prog w base spare held 66 v d p) : ∃ f : Nat → Int, v = .agg (rowF 32 fun i => .int .u8 (f i)).toArray ∧ ∀ i, i < 32 → (Lit.int .u8 (f i)).wf = true :=
  arr_arg Try.underlying66 Try.underlying5 (by kernel_rfl) (by kernel_rfl) hv h

/-- The channel on its way round. -/
def CS.rnd (l : Nat → Nat) (fr pl : Nat) (lf : Int) : CS := ⟨fr, 0, 128, 0, 0, false, waveK l 32, pl, lf, 1, perI 0, 0⟩
theorem round_low (l : Nat → Nat) (a b : Nat) : (((CS.lay l 32).wr 2 a).wr 3 b).wr 4 128 = CS.rnd l (b % 16 * 256 + a % 256) 0 4096 := by
  simp [CS.wr, CS.lay, CS.rnd]
theorem round_go (l : Nat → Nat) (fr pl : Nat) (lf : Int) : (CS.rnd l fr pl lf).go lf = CS.rnd l fr ((pl + 1) % 32) (perW fr 0) := by
  have h := perW_pos fr 0
  unfold CS.go CS.rnd
  congr 1
  · show wgPl 128 pl lf (perW fr 0) lf = _
    rw [wgPl, if_pos (by omega), goPl, if_neg (by omega), Int.sub_self, Int.zero_ediv]
    omega
  · show wgLf 128 lf (perW fr 0) lf = _
    rw [wgLf, if_pos (by omega), goLf, if_neg (by omega), Int.sub_self, Int.zero_emod, Int.sub_zero]
theorem round_ok (l : Nat → Nat) (fr pl : Nat) (lf : Int) (h1 : fr < 4096) (h2 : pl < 32) (h3 : 1 ≤ lf ∧ lf ≤ 4096) : (CS.rnd l fr pl lf).Ok := ⟨h1, by show (-4096 : Int) ≤ 0 ∧ (0 : Int) ≤ 4096; decide, by show (128 : Nat) < 256; decide, by show (0 : Nat) < 256; decide, by show (0 : Nat) < 32; decide, h2, h3, fun i => by
  show waveK l 32 i < 32
  unfold waveK
  split
  · exact Nat.mod_lt _ (by decide)
  · decide, by show (1 : Nat) < 262144; decide, perI_pos 0, by show (0 : Int) ≤ 0 ∧ (0 : Int) ≤ 255; decide⟩

set_option maxRecDepth 100000 in
set_option maxHeartbeats 8000000 in
theorem WaveRound_walk (w : World) (f : Nat → Int) (hf : ∀ i, i < 32 → (Lit.int .u8 (f i)).wf = true) (q0 : Int) (hq0 : (Lit.int .u16 q0).wf = true) :
    Calls Try.prog 10 #[.agg (rowF 32 fun i => .int .u8 (f i)).toArray, .int .u16 q0] w fun e w' => e = .returned (.bool true) ∧ Below w.heap.size w w' := by
  obtain ⟨l, hl⟩ : ∃ l : Nat → Nat, ∀ i, i < 32 → f i = (l i : Int) ∧ l i < 256 := ⟨fun i => (f i).toNat, fun i hi => by have := wf_bounds_u8 (hf i hi); show f i = ((f i).toNat : Int) ∧ (f i).toNat < 256; omega⟩
  rw [show rowF 32 (fun i => Value.int .u8 (f i)) = rowF 32 fun i => Value.int .u8 (l i : Int) from rowF_ext fun i hi => by rw [(hl i hi).1]]
  have HL : Hid (∀ i, i < 32 → l i < 256) := Lib.hid fun i hi => (hl i hi).2
  obtain ⟨hq1, hq2⟩ := wf_bounds_u16 hq0
  obtain ⟨q, rfl⟩ : ∃ s : Nat, q0 = (s : Int) := ⟨q0.toNat, by omega⟩
  have e1 : (q : Int).tmod 256 = ((q % 256 : Nat) : Int) := by rw [Int.tmod_eq_emod_of_nonneg (by omega)]; rfl
  have e2 : (q : Int).tdiv 256 = ((q / 256 : Nat) : Int) := by rw [Int.tdiv_eq_ediv_of_nonneg (by omega)]; rfl
  have hqa : q % 256 < 256 := by omega
  have hqb : q / 256 < 256 := by omega
  generalize q % 256 = qa at *
  generalize q / 256 = qb at *
  clear hf hl hq0
  go_enter Try.func10, Try.ntmps10
  go_wp2_with fail
  refine allocs1 (F := fun w => Calls _ _ _ w _) ?_
  intro w1 hL1 hB1 _
  replace hL1 : At w1 w.heap.size 66 (rowF 32 fun i => .int .u8 (l i : Int)) := hL1
  refine (live14_any w1).mono ?_
  rintro e w2 ⟨rfl, hb2⟩
  have hL2 := hL1.below hb2 hL1.lt
  have hB2 := step_below hB1 hb2
  clear hb2 hL1 hB1
  go_wp2_with fail
  refine (WNew_any w2).mono ?_
  rintro e w3 ⟨c, b, rfl, hb, hbc, hA3, hN3, hb3⟩
  have HP3 : Hid (PC w3 c b (CS.lay l 0)) := Lib.hid (CS.lay_zero l ▸ ⟨hA3, hN3⟩)
  have HL3 := Lib.hid (hL2.below hb3 hL2.lt)
  have HB3 := Lib.hid (step_below hB2 hb3)
  have hs1 : w.heap.size < w2.heap.size := hL2.lt
  clear hL2 hB2 hb3 hA3 hN3
  go_wp2
  go_loopw [6] (fun i wr => ∃ k : Nat, k ≤ 32 ∧ i = .int .i64 k ∧ Hid (PC wr c b (CS.lay l k)) ∧ Hid (At wr w.heap.size 66 (rowF 32 fun i => .int .u8 (l i : Int))) ∧ Hid (Below w.heap.size w wr)) (fun i _ => 32 - (intOf i).toNat)
  case atStart => exact ⟨0, by omega, rfl, HP3, HL3, HB3⟩
  case round =>
    clear HP3 HL3 HB3
    obtain ⟨k, hk, rfl, HP, HLr, HB⟩ := hrel
    by_cases hlt : k < 32
    · have hck := HLr.out.cell k (rowF_get (f := fun i => Value.int .u8 (l i : Int)) hlt)
      go_wp2_with fail
      refine (Write_S c b _ 6 (l k) wr HP.out (CS.lay_ok _ _) (HL.out k hlt)).mono ?_
      rintro e w4 ⟨rfl, P4, U4⟩
      rw [CS.lay_step l hlt] at P4
      have HP4 := Lib.hid P4
      have HL4 := Lib.hid (HLr.out.upd U4 (by rintro (h | h) <;> omega))
      have HB4 := Lib.hid (step_updS HB.out U4 (by rintro k (rfl | rfl) <;> omega))
      clear P4 U4 hck
      go_wp2
      go_round
      case rel => exact ⟨k + 1, by omega, by go_num, HP4, HL4, HB4⟩
      case measure => simp [intOf]; omega
    · obtain rfl : k = 32 := by omega
      go_wp2_with fail
      refine (Write_S c b _ 2 qa wr HP.out (CS.lay_ok _ _) hqa).mono ?_
      rintro e w4 ⟨rfl, P4, U4⟩
      have L4 := HLr.out.upd U4 (by rintro (h | h) <;> omega)
      have B4 := step_updS HB.out U4 (by rintro k (rfl | rfl) <;> omega)
      clear U4 HP HLr HB
      go_wp2_with fail
      refine (Write_S c b _ 3 qb w4 P4 (CS.wr_ok (CS.lay_ok _ _) _ hqa) hqb).mono ?_
      rintro e w5 ⟨rfl, P5, U5⟩
      have L5 := L4.upd U5 (by rintro (h | h) <;> omega)
      have B5 := step_updS B4 U5 (by rintro k (rfl | rfl) <;> omega)
      clear U5 P4 L4 B4
      go_wp2_with fail
      refine (Write_S c b _ 4 128 w5 P5 (CS.wr_ok (CS.wr_ok (CS.lay_ok _ _) _ hqa) _ hqb) (by omega)).mono ?_
      rintro e w6 ⟨rfl, P6, U6⟩
      rw [round_low] at P6
      have L6 := L5.upd U6 (by rintro (h | h) <;> omega)
      have B6 := step_updS B5 U6 (by rintro k (rfl | rfl) <;> omega)
      have hfr : qb % 16 * 256 + qa % 256 < 4096 := by omega
      clear U6 P5 L5 B5
      generalize qb % 16 * 256 + qa % 256 = fr at *
      go_wp2_with fail
      refine (Until_any c b fr 0 128 0 0 false _ 0 4096 w6 P6.c).mono ?_
      rintro e _ ⟨rfl, rfl⟩
      go_wp2_with fail
      refine (Go_S c b _ 4096 w6 P6 (round_ok l fr 0 4096 hfr (by omega) (by omega)) (by omega)).mono ?_
      rintro e w7 ⟨rfl, P7, U7⟩
      rw [round_go] at P7
      have HP7 : Hid (PC w7 c b (CS.rnd l fr ((0 + 1) % 32) (perW fr 0))) := Lib.hid P7
      have HL7 := Lib.hid (L6.upd U7 (by rintro (h | h) <;> omega))
      have HB7 := Lib.hid (step_updS B6 U7 (by rintro k (rfl | rfl) <;> omega))
      clear U7 P6 P7 L6 B6
      have hp := perW_pos fr 0
      go_wp2
      go_loopw [7] (fun i wr => ∃ k : Nat, k ≤ 64 ∧ i = .int .i64 k ∧ Hid (PC wr c b (CS.rnd l fr ((k + 1) % 32) (perW fr 0))) ∧ Hid (At wr w.heap.size 66 (rowF 32 fun i => .int .u8 (l i : Int))) ∧ Hid (Below w.heap.size w wr)) (fun i _ => 64 - (intOf i).toNat)
      case atStart => exact ⟨0, by omega, rfl, HP7, HL7, HB7⟩
      case round =>
        clear HP7 HL7 HB7
        obtain ⟨k, hk, rfl, HP, HLr, HB⟩ := hrel
        by_cases hlt : k < 64
        · have hk32 : (k + 1) % 32 < 32 := Nat.mod_lt _ (by omega)
          have hck := HLr.out.cell ((k + 1) % 32) (rowF_get (f := fun i => Value.int .u8 (l i : Int)) hk32)
          have i1 : ((k : Int) + 1).tmod 32 = (((k + 1) % 32 : Nat) : Int) := by rw [Int.tmod_eq_emod_of_nonneg (by omega)]; rfl
          have HLV : Hid (lvW 128 0 false (waveK l 32) ((k + 1) % 32) 1 = ((l ((k + 1) % 32) % 32 : Nat) : Int)) := Lib.hid (by rw [lvW, if_neg (by omega), if_neg (by omega), if_neg (by simp), waveK, if_pos hk32])
          have HK : Hid ((k + 1 + 1) % 32 = ((k + 1) % 32 + 1) % 32) := Lib.hid (by omega)
          generalize (k + 1) % 32 = pl at *
          have i2 : (l pl : Int).tmod 32 = ((l pl % 32 : Nat) : Int) := by rw [Int.tmod_eq_emod_of_nonneg (by omega)]; rfl
          have hr : l pl % 32 < 32 := Nat.mod_lt _ (by omega)
          generalize l pl % 32 = r at *
          have k1 := fun n => Level_w c b fr 0 128 0 0 false (waveK l 32) pl (perW fr 0) (wr.drewN n) 1 _ _ (HP.out.c.drewN n) (HP.out.b.drewN n) (by omega) (by omega) hk32
          have k2 := fun n => Period_w c b fr 0 128 0 0 false (waveK l 32) pl (perW fr 0) (wr.drewN n) (HP.out.c.drewN n) hfr (by omega)
          have k3 := fun n => Until_any c b fr 0 128 0 0 false (waveK l 32) pl (perW fr 0) (wr.drewN n) (HP.out.c.drewN n)
          rw [HLV.out] at k1
          obtain ⟨p, hpp⟩ : ∃ p, p = perW fr 0 := ⟨_, rfl⟩
          rw [← hpp] at k2 k3
          have HPP := Lib.hid hpp
          clear hpp
          go_wp2_with fail
          refine wp_region_quiet_lit (by kernel_rfl) (by kernel_rfl) ?_
          repeat (go_big_quiet_step ((first | (go_at_call 42; exact Calls.quiet_of (k1 _)) | (go_at_call 44; exact Calls.quiet_of (k2 _)) | (go_at_call 41; exact Calls.quiet_of_same ((k3 _).mono fun _ _ h => ⟨h.1, h.2.symm⟩)))))
          refine wpQuiet_nil ?_
          intro _ hw'
          obtain ⟨nq, rfl⟩ := hw'
          have P8 : PC (wr.drewN nq) c b (CS.rnd l fr pl (perW fr 0)) := ⟨HP.out.c.drewN nq, HP.out.b.drewN nq⟩
          have L8 := HLr.out.drewN nq
          have B8 : Below w.heap.size w (wr.drewN nq) := ⟨HB.out.os, HB.out.tape, HB.out.output, HB.out.size, HB.out.block⟩
          clear k1 k2 k3 hck HP HLr HB
          generalize wr.drewN nq = w8 at *
          go_wp2_with fail
          refine (Period_w c b fr 0 128 0 0 false _ pl (perW fr 0) w8 P8.c hfr (by omega)).mono ?_
          rintro e _ ⟨rfl, m, rfl⟩
          have P9 : PC (w8.drewN m) c b (CS.rnd l fr pl (perW fr 0)) := ⟨P8.c.drewN m, P8.b.drewN m⟩
          have L9 := L8.drewN m
          have B9 : Below w.heap.size w (w8.drewN m) := ⟨B8.os, B8.tape, B8.output, B8.size, B8.block⟩
          clear P8 L8 B8
          generalize w8.drewN m = w9 at *
          go_wp2_with fail
          refine (Go_S c b _ (perW fr 0) w9 P9 (round_ok l fr pl (perW fr 0) hfr hk32 hp) (by omega)).mono ?_
          rintro e w10 ⟨rfl, P10, U10⟩
          rw [round_go, ← HK.out] at P10
          have HP10 := Lib.hid P10
          have HL10 := Lib.hid (L9.upd U10 (by rintro (h | h) <;> omega))
          have HB10 := Lib.hid (step_updS B9 U10 (by rintro k (rfl | rfl) <;> omega))
          clear U10 P10 P9 L9 B9
          go_wp2
          go_round
          case rel => exact ⟨k + 1, by omega, by go_num, HP10, HL10, HB10⟩
          case measure => simp [intOf]; omega
        · obtain rfl : k = 64 := by omega
          go_wp2_with fail
          refine (Place_any c b fr 0 128 0 0 false _ 1 _ wr HP.out.c).mono ?_
          rintro e _ ⟨rfl, rfl⟩
          go_wp2
          go_ret
          exact ⟨rfl, HB.out⟩
end Go.Proofs.Ytgkbpdcedighcac
