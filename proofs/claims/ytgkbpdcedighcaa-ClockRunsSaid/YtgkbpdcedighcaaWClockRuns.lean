/-
  The walk of the law ClockRuns.
-/
import Derived.Test.YtgkbpdcedighcaaClockL
import Derived.Test.YtgkbpdcedighcaaOpen
namespace Go.Proofs.Ytgkbpdcedighcaa
open Go.RowKit Go.Sort

theorem clamp_bounds (n : Int) : 0 ≤ clampI n ∧ clampI n ≤ 1125899906842624 := by
  unfold clampI; split
  · omega
  · split <;> omega

theorem CI.mono {w : World} {b g : Nat} {N C N' C' : Int} (h : CI w b g N C) (hN : N ≤ N') (hC : C ≤ C') : CI w b g N' C' := by
  obtain ⟨now, cyc, fast, asked, nf, nr, h1, h2, h3, h4, h5, h6, h7, h8⟩ := h
  exact ⟨now, cyc, fast, asked, nf, nr, h1, h2, h3, h4, h5, by omega, h7, by omega⟩

theorem StepPost.below {w0 w w' : World} {b g : Nat} {N C : Int} {e : Ending} (h : StepPost w w' b g N C e) (hb : Below w0.heap.size w0 w) (h1 : w0.heap.size ≤ b) (h2 : w0.heap.size ≤ g) : Below w0.heap.size w0 w' :=
  h.2.2.to hb hb.size fun k hk => by rcases hk with rfl | rfl <;> assumption

set_option maxHeartbeats 1000000 in
theorem ClockRuns_walk (w : World) (now : Int) (wn : (Lit.int .i64 now).wf = true) (fast : Bool) (a2 : Option Addr) (len2 cap2 : Nat) (F2 : Nat → List Value) (s2 : SlR w a2 len2 cap2 1 (IsInt .u8) F2)
    (a3 : Option Addr) (len3 cap3 : Nat) (F3 : Nat → List Value) (s3 : SlR w a3 len3 cap3 1 (IsInt .u8) F3) :
    Calls Try.prog 3 #[.int .i64 now, .bool fast, .slice a2 len2 cap2, .slice a3 len3 cap3] w fun e w' => e = .returned (.bool true) ∧ Below w.heap.size w w' := by
  have hn := wf_bounds_i64 wn
  obtain ⟨z2, hz2⟩ := s2.ints
  obtain ⟨z3, hz3⟩ := s3.ints
  have HZ2 := Lib.hid hz2
  have HZ3 := Lib.hid hz3
  have hm2 := s2.max
  have hm3 := s3.max
  have hle2 := s2.le
  have hle3 := s3.le
  unfold maxLen at hm2 hm3
  clear s2 s3 hz2 hz3 wn
  by_cases hlong : 300 < len2
  · go_enter Try.func3, Try.ntmps3
    go_wp2_with fail
    refine (live02_any _).mono ?_
    rintro e w1 ⟨rfl, hB1⟩
    go_wp2
    go_ret
    exact ⟨rfl, hB1⟩
  by_cases hlong3 : 300 < len3
  · go_enter Try.func3, Try.ntmps3
    go_wp2_with fail
    refine (live02_any _).mono ?_
    rintro e w1 ⟨rfl, hB1⟩
    go_wp2
    go_ret
    exact ⟨rfl, hB1⟩
  go_enter Try.func3, Try.ntmps3
  go_wp2_with fail
  refine (live02_any _).mono ?_
  rintro e w1 ⟨rfl, hB1⟩
  go_wp2_with fail
  refine (At_any _ _ _).mono ?_
  rintro e w2 ⟨b, rfl, hb, hA2, hB2'⟩
  have hB2 := step_below hB1 hB2'
  have hbw : w.heap.size ≤ b := Nat.le_trans hB1.size hb
  clear hB1 hB2' hb
  go_wp2_with fail
  refine (At2_any _ _ _).mono ?_
  rintro e w3 ⟨g, rfl, hg, hR3, hB3'⟩
  have hA3 := hA2.below hB3' hA2.lt
  have hgw : w.heap.size ≤ g := Nat.le_trans hB2.size hg
  have hB3 := step_below hB2 hB3'
  have hcl := clamp_bounds now
  clear hB2 hB3' hg hA2
  generalize clampI now = n0 at hA3 hR3 hcl
  have q0 := hR3.cell 0 rfl
  go_wp2_with fail
  refine wp_region_quiet_lit (by kernel_rfl) (by kernel_rfl) ?_
  repeat (go_big_quiet_step ((first | (go_at_call 18; exact Calls.quiet_of_same ((Now_any _ _ _ _ _ _ _ (hA3.drewN _)).mono fun _ _ h => ⟨h.1, h.2.symm⟩)) | (go_at_call 19; exact Calls.quiet_of_same ((Fast_any _ _ _ _ _ _ _ (hA3.drewN _)).mono fun _ _ h => ⟨h.1, h.2.symm⟩)) | (go_at_call 20; exact Calls.quiet_of_same ((Cycles_any _ _ _ _ _ _ _ (hA3.drewN _)).mono fun _ _ h => ⟨h.1, h.2.symm⟩)))))
  refine wpQuiet_nil ?_
  intro _ hw'
  obtain ⟨nq, rfl⟩ := hw'
  clear q0
  go_wp2_with fail
  have hCI : CI (w3.drewN nq) b g 1125899906842624 0 := ⟨_, _, _, _, _, _, hA3.drewN _, hR3.drewN _, (fun h => by cases h), (fun _ => rfl), hcl.1, hcl.2, by omega, by omega⟩
  have hB4 : Below w.heap.size w (w3.drewN nq) := ⟨hB3.os, hB3.tape, hB3.output, hB3.size, hB3.block⟩
  clear hA3 hR3 hB3
  generalize w3.drewN nq = w4 at *
  have HI := Lib.hid hCI
  clear hCI
  go_loopw [11] (fun i wr => ∃ k : Nat, k ≤ len2 ∧ i = .int .i64 k ∧ Hid (CI wr b g (1125899906842624 + 24 * k) (2 * k)) ∧ Hid (Below w.heap.size w wr)) (fun i _ => len2 - (intOf i).toNat)
  case atStart => exact ⟨0, Nat.zero_le _, rfl, Lib.hid (HI.out.mono (by omega) (by omega)), Lib.hid hB4⟩
  case round =>
    obtain ⟨k, hk, rfl, HC, HB⟩ := hrel
    by_cases hlt : k < len2
    · obtain ⟨hwf, b2, off2, rfl, hbl, hc⟩ := HZ2.out k hlt
      have hbd := wf_bounds_u8 hwf
      have hcell : wr.cell? ⟨b2, off2 + k, none⟩ = some (.int .u8 (z2 k)) := (HB.out.cell (p := ⟨b2, off2 + k, none⟩) hbl).trans hc
      clear hc hwf
      go_wp2_with fail
      refine (step_any b g (z2 k) _ _ hbd.1 hbd.2 _ HC.out (by omega) (by omega)).mono ?_
      rintro e w5 hP
      have HB5 := Lib.hid (hP.below HB.out hbw hgw)
      obtain ⟨rfl, hC5, -⟩ := hP
      have HC5 := Lib.hid hC5
      clear hC5 HC HB hcell
      go_wp2
      go_roundw
      case rel => exact ⟨k + 1, by omega, by go_num, Lib.hid (HC5.out.mono (by omega) (by omega)), HB5⟩
      case measure => simp [intOf]; omega
    · go_wp2_with fail
      have hke : k = len2 := by omega
      subst hke
      clear hlt
      obtain ⟨now1, cyc1, fast1, asked1, nf1, nr1, hA1, hR1, p1, p2, p3, p4, p5, p6⟩ := HC.out
      have HP1 := Lib.hid p1
      have HP2 := Lib.hid p2
      clear p1 p2
      refine (Clone_any b _ _ _ _ _ _ hA1).mono ?_
      rintro e w5 ⟨d, rfl, hd, hA5, hB5'⟩
      have hR5 := hR1.below hB5' hR1.lt
      have hbd : b < d := Nat.lt_of_lt_of_le hA1.lt hd
      have hgd : g < d := Nat.lt_of_lt_of_le hR1.lt hd
      have hA1' := hA1.below hB5' hA1.lt
      have HB5 := Lib.hid (step_below HB.out hB5')
      have hdw : w.heap.size ≤ d := Nat.le_trans HB.out.size hd
      clear HB hB5' hA1 hR1 HC
      go_wp2_with fail
      refine (Copy2_any g _ _ _ _ _ _ hR5).mono ?_
      rintro e w6 ⟨x, rfl, hx, hR6, hB6'⟩
      have hA6 := hA5.below hB6' hA5.lt
      have hbx : b < x := by have := hA1'.lt; omega
      have hgx : g < x := by have := hR5.lt; omega
      have hCI1 : CI w6 b g (1125899906842624 + 24 * k) (2 * k) := ⟨_, _, _, _, _, _, hA1'.below hB6' hA1'.lt, hR5.below hB6' hR5.lt, HP1.out, HP2.out, p3, p4, p5, p6⟩
      have hCI2 : CI w6 d x (1125899906842624 + 24 * k) (2 * k) := ⟨_, _, _, _, _, _, hA6, hR6, HP1.out, HP2.out, p3, p4, p5, p6⟩
      have hxw : w.heap.size ≤ x := Nat.le_trans HB5.out.size hx
      have HB6 := Lib.hid (step_below HB5.out hB6')
      have H1 := Lib.hid hCI1
      have H2 := Lib.hid hCI2
      clear hCI1 hCI2 HB5 hB6' hA5 hA6 hR6 hR5 hA1' HP1 HP2
      go_wp2_with fail
      go_loopw [14] (fun i ws => ∃ j : Nat, j ≤ len3 ∧ i = .int .i64 j ∧ Hid (CI ws b g (1125899906842624 + 24 * k) (2 * k)) ∧ Hid (CI ws d x (1125899906842624 + 24 * k + 24 * j) (2 * k + 2 * j)) ∧ Hid (Below w.heap.size w ws)) (fun i _ => len3 - (intOf i).toNat)
      case atStart => exact ⟨0, Nat.zero_le _, rfl, H1, Lib.hid (H2.out.mono (by omega) (by omega)), HB6⟩
      case round =>
        obtain ⟨j, hj, rfl, HC1, HC2, HB⟩ := hrel
        by_cases hlt : j < len3
        · obtain ⟨hwf, b2, off2, rfl, hbl, hc⟩ := HZ3.out j hlt
          have hbd3 := wf_bounds_u8 hwf
          have hcell : wr.cell? ⟨b2, off2 + j, none⟩ = some (.int .u8 (z3 j)) := (HB.out.cell (p := ⟨b2, off2 + j, none⟩) hbl).trans hc
          clear hc hwf
          go_wp2_with fail
          refine (step_any d x (z3 j) _ _ hbd3.1 hbd3.2 _ HC2.out (by omega) (by omega)).mono ?_
          rintro e w7 hP
          have HB7 := Lib.hid (hP.below HB.out hdw hxw)
          have HC17 := Lib.hid (HC1.out.upd hP.2.2 (by omega) (by omega))
          obtain ⟨rfl, hC7, -⟩ := hP
          have HC27 := Lib.hid hC7
          clear hC7 HC1 HC2 HB hcell
          go_wp2
          go_roundw
          case rel => exact ⟨j + 1, by omega, by go_num, HC17, Lib.hid (HC27.out.mono (by omega) (by omega)), HB7⟩
          case measure => simp [intOf]; omega
        · go_wp2_with fail
          obtain ⟨now2, cyc2, fast2, asked2, nf2, nr2, hA2, hR2, p1, p2, p3, p4, p5, p6⟩ := HC1.out
          have HP1 := Lib.hid p1
          have HP2 := Lib.hid p2
          clear p1 p2 HC1 HC2 H1 H2 HI
          have q0 := hR2.cell 0 rfl
          have q1 := hR2.cell 1 rfl
          have q2 := hR2.cell 2 rfl
          refine wp_region_quiet_lit (by kernel_rfl) (by kernel_rfl) ?_
          repeat (go_big_quiet_step ((first | (go_at_call 18; exact Calls.quiet_of_same ((Now_any _ _ _ _ _ _ _ (hA2.drewN _)).mono fun _ _ h => ⟨h.1, h.2.symm⟩)) | (go_at_call 19; exact Calls.quiet_of_same ((Fast_any _ _ _ _ _ _ _ (hA2.drewN _)).mono fun _ _ h => ⟨h.1, h.2.symm⟩)) | (go_at_call 20; exact Calls.quiet_of_same ((Cycles_any _ _ _ _ _ _ _ (hA2.drewN _)).mono fun _ _ h => ⟨h.1, h.2.symm⟩)))))
          refine wpQuiet_nil ?_
          intro _ hw'
          obtain ⟨nq, rfl⟩ := hw'
          go_wp2
          go_ret
          exact ⟨rfl, ⟨HB.out.os, HB.out.tape, HB.out.output, HB.out.size, HB.out.block⟩⟩
end Go.Proofs.Ytgkbpdcedighcaa
