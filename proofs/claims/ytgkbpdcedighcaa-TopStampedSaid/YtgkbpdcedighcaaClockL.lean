/-
  The walks of the clock's laws: live, step.
-/
import Derived.Test.YtgkbpdcedighcaaClockR
namespace Go.Proofs.Ytgkbpdcedighcaa
open Go.RowKit Go.Sort

set_option maxHeartbeats 1000000 in
theorem live02_any (w : World) : Calls Try.prog 15 #[] w fun e w' => e = .returned (.bool true) ∧ Below w.heap.size w w' := by
  go_enter Try.func15, Try.ntmps15
  go_wp2_with fail
  refine (New_any _).mono ?_
  rintro e w1 ⟨b, rfl, hb, hA1, hB1⟩
  go_wp2_with fail
  refine (Cycle_any b 0 0 false false false false w1 hA1 (by decide) (by decide) (by decide) (by decide)).mono ?_
  rintro e w2 ⟨rfl, hA2', hU2⟩
  have hA2 : At w2 b 98 (ck 12 1 false false false) := hA2'
  have hB2 := step_upd hB1 hU2 hb
  clear hA1 hB1 hU2 hA2'
  go_wp2_with fail
  refine (Now_any b _ _ _ _ _ _ hA2).mono ?_
  rintro e w' ⟨rfl, rfl⟩
  go_wp2_with fail
  refine (Ask_any b _ _ _ _ _ _ _ hA2).mono ?_
  rintro e w3 ⟨rfl, hA3, hU3⟩
  have hB3 := step_upd hB2 hU3 hb
  clear hA2 hB2 hU3
  go_wp2_with fail
  refine (Cycle_any b 12 1 false true true false w3 hA3 (by decide) (by decide) (by decide) (by decide)).mono ?_
  rintro e w4 ⟨rfl, hA4', hU4⟩
  have hA4 : At w4 b 98 (ck 24 2 false true true) := hA4'
  have hB4 := step_upd hB3 hU4 hb
  clear hA3 hB3 hU4 hA4'
  go_wp2_with fail
  refine (Turn_any b _ _ _ _ _ _ hA4).mono ?_
  rintro e w5 ⟨rfl, hA5', hU5⟩
  have hA5 : At w5 b 98 (ck 24 2 true false false) := hA5'
  have hB5 := step_upd hB4 hU5 hb
  clear hA4 hB4 hU5 hA5'
  go_wp2_with fail
  refine (Cycle_any b 24 2 true false false false w5 hA5 (by decide) (by decide) (by decide) (by decide)).mono ?_
  rintro e w6 ⟨rfl, hA6', hU6⟩
  have hA6 : At w6 b 98 (ck 27 3 true false false) := hA6'
  have hB6 := step_upd hB5 hU6 hb
  clear hA5 hB5 hU6 hA6'
  go_wp2_with fail
  refine (Ask_nil _ _).mono ?_
  rintro e w' ⟨rfl, rfl⟩
  go_wp2_with fail
  refine (Turn_nil _).mono ?_
  rintro e w' ⟨rfl, rfl⟩
  go_wp2_with fail
  refine (Length_any true true _).mono ?_
  rintro e w7 ⟨rfl, hB7'⟩
  have hA7 := hA6.below hB7' hA6.lt
  have hB7 := step_below hB6 hB7'
  clear hA6 hB6 hB7'
  have el : len true true = 6 := rfl
  rw [el]
  clear el
  go_wp2_with (first
    | (go_at_call_of 18 (Value.pointer none); refine (Now_nil _).mono ?_; rintro e w' ⟨rfl, rfl⟩)
    | (go_at_call 18; refine (Now_any _ _ _ _ _ _ _ hA7).mono ?_; rintro e w' ⟨rfl, rfl⟩)
    | (go_at_call_of 19 (Value.pointer none); refine (Fast_nil _).mono ?_; rintro e w' ⟨rfl, rfl⟩)
    | (go_at_call 19; refine (Fast_any _ _ _ _ _ _ _ hA7).mono ?_; rintro e w' ⟨rfl, rfl⟩)
    | (go_at_call_of 20 (Value.pointer none); refine (Cycles_nil _).mono ?_; rintro e w' ⟨rfl, rfl⟩)
    | (go_at_call 20; refine (Cycles_any _ _ _ _ _ _ _ hA7).mono ?_; rintro e w' ⟨rfl, rfl⟩)
    | (go_at_call 25; refine (Cycle_nil _ _).mono ?_; rintro e w' ⟨rfl, rfl⟩)
    | (go_at_call 22; refine (Clone_nil _).mono ?_; rintro e w' ⟨rfl, rfl⟩))
  go_ret
  exact ⟨rfl, hB7⟩

/-- Both clocks are in the same state; stamps up to N, cycles up to C. -/
def CI (w : World) (b g : Nat) (N C : Int) : Prop :=
  ∃ now cyc fast asked nf nr, At w b 98 (ck now cyc fast asked nf) ∧ At w g 30 (rk now cyc fast asked nr) ∧ (asked = true → nr = nf) ∧ (asked = false → nf = false) ∧ 0 ≤ now ∧ now ≤ N ∧ 0 ≤ cyc ∧ cyc ≤ C

theorem CI.upd {S : Nat → Prop} {w w' : World} {b g : Nat} {N C : Int} (h : CI w b g N C) (hu : Upd S w w') (hb : ¬ S b) (hg : ¬ S g) : CI w' b g N C := by
  obtain ⟨now, cyc, fast, asked, nf, nr, h1, h2, h3⟩ := h
  exact ⟨now, cyc, fast, asked, nf, nr, h1.upd hu hb, h2.upd hu hg, h3⟩

def StepPost (w w' : World) (b g : Nat) (N C : Int) (e : Ending) : Prop := e = .returned (.bool true) ∧ CI w' b g N C ∧ Upd (fun k => k = b ∨ k = g) w w'

set_option maxHeartbeats 1000000 in
theorem step_any (b g : Nat) (s N C : Int) (hs0 : 0 ≤ s) (hs1 : s ≤ 255) (w : World) (hCI : CI w b g N C) (hN : N ≤ 1152921504606846976) (hC : C ≤ 1152921504606846976) :
    Calls Try.prog 21 #[.pointer (some ⟨b, 0, none⟩), .pointer (some ⟨g, 0, none⟩), .int .u8 s] w fun e w' => StepPost w w' b g (N + 24) (C + 2) e := by
  obtain ⟨now, cyc, fast, asked, nf, nr, hA, hR, hq1, hq2, n0, n1, c0, c1⟩ := hCI
  have hne : b ≠ g := hA.ne_ hR (by decide)
  have hk : s % 5 = 0 ∨ s % 5 = 1 ∨ s % 5 = 2 ∨ s % 5 = 3 ∨ s % 5 = 4 := by omega
  rcases hk with hk | hk | hk | hk | hk
  · go_enter Try.func21, Try.ntmps21
    go_wp2_with fail
    have hl : 0 ≤ len fast false ∧ len fast false ≤ 24 := by cases fast <;> decide
    refine (Cycle_any b now cyc fast asked nf false w hA n0 (by omega) c0 (by omega)).mono ?_
    rintro e w1 ⟨rfl, hA1, hU1⟩
    have hR1 := hR.upd hU1 (fun h => hne h.symm)
    go_wp2_with fail
    refine (Cycle2_any g now cyc fast asked nr false w1 hR1 n0 (by omega) c0 (by omega)).mono ?_
    rintro e w2 ⟨rfl, hR2, hU2⟩
    have hA2 := hA1.upd hU2 hne
    have hU : Upd (fun k => k = b ∨ k = g) w w2 := (hU1.mono fun _ _ h => .inl h).trans hU2 fun _ _ h => .inr h
    clear hA hR hA1 hR1 hU1 hU2
    have q0 := hR2.cell 0 rfl
    have q1 := hR2.cell 1 rfl
    have q2 := hR2.cell 2 rfl
    go_wp2_with fail
    refine wp_region_quiet_lit (by kernel_rfl) (by kernel_rfl) ?_
    repeat (go_big_quiet_step ((first | (go_at_call 18; exact Calls.quiet_of_same ((Now_any _ _ _ _ _ _ _ (hA2.drewN _)).mono fun _ _ h => ⟨h.1, h.2.symm⟩)) | (go_at_call 19; exact Calls.quiet_of_same ((Fast_any _ _ _ _ _ _ _ (hA2.drewN _)).mono fun _ _ h => ⟨h.1, h.2.symm⟩)) | (go_at_call 20; exact Calls.quiet_of_same ((Cycles_any _ _ _ _ _ _ _ (hA2.drewN _)).mono fun _ _ h => ⟨h.1, h.2.symm⟩)))))
    refine wpQuiet_nil ?_
    intro _ hw'
    obtain ⟨nq, rfl⟩ := hw'
    go_wp2
    go_ret
    exact ⟨rfl, ⟨_, _, _, _, _, _, hA2.drewN _, hR2.drewN _, hq1, hq2, by omega, by omega, by simp [idx]; omega, by simp [idx]; omega⟩, hU.drewN _⟩
  · go_enter Try.func21, Try.ntmps21
    go_wp2_with fail
    have hl : 0 ≤ len fast true ∧ len fast true ≤ 24 := by cases fast <;> decide
    refine (Cycle_any b now cyc fast asked nf true w hA n0 (by omega) c0 (by omega)).mono ?_
    rintro e w1 ⟨rfl, hA1, hU1⟩
    have hR1 := hR.upd hU1 (fun h => hne h.symm)
    go_wp2_with fail
    refine (Cycle2_any g now cyc fast asked nr true w1 hR1 n0 (by omega) c0 (by omega)).mono ?_
    rintro e w2 ⟨rfl, hR2, hU2⟩
    have hA2 := hA1.upd hU2 hne
    have hU : Upd (fun k => k = b ∨ k = g) w w2 := (hU1.mono fun _ _ h => .inl h).trans hU2 fun _ _ h => .inr h
    clear hA hR hA1 hR1 hU1 hU2
    have q0 := hR2.cell 0 rfl
    have q1 := hR2.cell 1 rfl
    have q2 := hR2.cell 2 rfl
    go_wp2_with fail
    refine wp_region_quiet_lit (by kernel_rfl) (by kernel_rfl) ?_
    repeat (go_big_quiet_step ((first | (go_at_call 18; exact Calls.quiet_of_same ((Now_any _ _ _ _ _ _ _ (hA2.drewN _)).mono fun _ _ h => ⟨h.1, h.2.symm⟩)) | (go_at_call 19; exact Calls.quiet_of_same ((Fast_any _ _ _ _ _ _ _ (hA2.drewN _)).mono fun _ _ h => ⟨h.1, h.2.symm⟩)) | (go_at_call 20; exact Calls.quiet_of_same ((Cycles_any _ _ _ _ _ _ _ (hA2.drewN _)).mono fun _ _ h => ⟨h.1, h.2.symm⟩)))))
    refine wpQuiet_nil ?_
    intro _ hw'
    obtain ⟨nq, rfl⟩ := hw'
    go_wp2
    go_ret
    exact ⟨rfl, ⟨_, _, _, _, _, _, hA2.drewN _, hR2.drewN _, hq1, hq2, by omega, by omega, by simp [idx]; omega, by simp [idx]; omega⟩, hU.drewN _⟩
  · go_enter Try.func21, Try.ntmps21
    go_wp2_with fail
    refine (Ask_any b now cyc fast asked nf true w hA).mono ?_
    rintro e w1 ⟨rfl, hA1, hU1⟩
    have hR1 := hR.upd hU1 (fun h => hne h.symm)
    go_wp2_with fail
    refine (Ask2_any g now cyc fast asked nr true w1 hR1).mono ?_
    rintro e w2 ⟨rfl, hR2, hU2⟩
    have hA2 := hA1.upd hU2 hne
    have hU : Upd (fun k => k = b ∨ k = g) w w2 := (hU1.mono fun _ _ h => .inl h).trans hU2 fun _ _ h => .inr h
    clear hA hR hA1 hR1 hU1 hU2
    have q0 := hR2.cell 0 rfl
    have q1 := hR2.cell 1 rfl
    have q2 := hR2.cell 2 rfl
    go_wp2_with fail
    refine wp_region_quiet_lit (by kernel_rfl) (by kernel_rfl) ?_
    repeat (go_big_quiet_step ((first | (go_at_call 18; exact Calls.quiet_of_same ((Now_any _ _ _ _ _ _ _ (hA2.drewN _)).mono fun _ _ h => ⟨h.1, h.2.symm⟩)) | (go_at_call 19; exact Calls.quiet_of_same ((Fast_any _ _ _ _ _ _ _ (hA2.drewN _)).mono fun _ _ h => ⟨h.1, h.2.symm⟩)) | (go_at_call 20; exact Calls.quiet_of_same ((Cycles_any _ _ _ _ _ _ _ (hA2.drewN _)).mono fun _ _ h => ⟨h.1, h.2.symm⟩)))))
    refine wpQuiet_nil ?_
    intro _ hw'
    obtain ⟨nq, rfl⟩ := hw'
    go_wp2
    go_ret
    exact ⟨rfl, ⟨_, _, _, _, _, _, hA2.drewN _, hR2.drewN _, fun _ => rfl, (fun h => by cases h), n0, by omega, c0, by omega⟩, hU.drewN _⟩
  · go_enter Try.func21, Try.ntmps21
    go_wp2_with fail
    refine (Ask_any b now cyc fast asked nf false w hA).mono ?_
    rintro e w1 ⟨rfl, hA1, hU1⟩
    have hR1 := hR.upd hU1 (fun h => hne h.symm)
    go_wp2_with fail
    refine (Ask2_any g now cyc fast asked nr false w1 hR1).mono ?_
    rintro e w2 ⟨rfl, hR2, hU2⟩
    have hA2 := hA1.upd hU2 hne
    have hU : Upd (fun k => k = b ∨ k = g) w w2 := (hU1.mono fun _ _ h => .inl h).trans hU2 fun _ _ h => .inr h
    clear hA hR hA1 hR1 hU1 hU2
    have q0 := hR2.cell 0 rfl
    have q1 := hR2.cell 1 rfl
    have q2 := hR2.cell 2 rfl
    go_wp2_with fail
    refine wp_region_quiet_lit (by kernel_rfl) (by kernel_rfl) ?_
    repeat (go_big_quiet_step ((first | (go_at_call 18; exact Calls.quiet_of_same ((Now_any _ _ _ _ _ _ _ (hA2.drewN _)).mono fun _ _ h => ⟨h.1, h.2.symm⟩)) | (go_at_call 19; exact Calls.quiet_of_same ((Fast_any _ _ _ _ _ _ _ (hA2.drewN _)).mono fun _ _ h => ⟨h.1, h.2.symm⟩)) | (go_at_call 20; exact Calls.quiet_of_same ((Cycles_any _ _ _ _ _ _ _ (hA2.drewN _)).mono fun _ _ h => ⟨h.1, h.2.symm⟩)))))
    refine wpQuiet_nil ?_
    intro _ hw'
    obtain ⟨nq, rfl⟩ := hw'
    go_wp2
    go_ret
    exact ⟨rfl, ⟨_, _, _, _, _, _, hA2.drewN _, hR2.drewN _, fun _ => rfl, (fun h => by cases h), n0, by omega, c0, by omega⟩, hU.drewN _⟩
  · go_enter Try.func21, Try.ntmps21
    go_wp2_with fail
    have hturn : (if asked || nf then nf else fast) = (if asked then nr else fast) := by
      cases asked
      · simp [hq2 rfl]
      · simp [hq1 rfl]
    refine (Turn_any b now cyc fast asked nf w hA).mono ?_
    rintro e w1 ⟨rfl, hA1, hU1⟩
    have hR1 := hR.upd hU1 (fun h => hne h.symm)
    go_wp2_with fail
    refine (Turn2_any g now cyc fast asked nr w1 hR1).mono ?_
    rintro e w2 ⟨rfl, hR2, hU2⟩
    have hA2 := hA1.upd hU2 hne
    have hU : Upd (fun k => k = b ∨ k = g) w w2 := (hU1.mono fun _ _ h => .inl h).trans hU2 fun _ _ h => .inr h
    clear hA hR hA1 hR1 hU1 hU2
    rw [hturn] at hA2
    clear hturn
    generalize (if asked then nr else fast) = fast2 at hA2 hR2
    have q0 := hR2.cell 0 rfl
    have q1 := hR2.cell 1 rfl
    have q2 := hR2.cell 2 rfl
    go_wp2_with fail
    refine wp_region_quiet_lit (by kernel_rfl) (by kernel_rfl) ?_
    repeat (go_big_quiet_step ((first | (go_at_call 18; exact Calls.quiet_of_same ((Now_any _ _ _ _ _ _ _ (hA2.drewN _)).mono fun _ _ h => ⟨h.1, h.2.symm⟩)) | (go_at_call 19; exact Calls.quiet_of_same ((Fast_any _ _ _ _ _ _ _ (hA2.drewN _)).mono fun _ _ h => ⟨h.1, h.2.symm⟩)) | (go_at_call 20; exact Calls.quiet_of_same ((Cycles_any _ _ _ _ _ _ _ (hA2.drewN _)).mono fun _ _ h => ⟨h.1, h.2.symm⟩)))))
    refine wpQuiet_nil ?_
    intro _ hw'
    obtain ⟨nq, rfl⟩ := hw'
    go_wp2
    go_ret
    exact ⟨rfl, ⟨_, _, _, _, _, _, hA2.drewN _, hR2.drewN _, (fun h => by cases h), fun _ => rfl, n0, by omega, c0, by omega⟩, hU.drewN _⟩
end Go.Proofs.Ytgkbpdcedighcaa
