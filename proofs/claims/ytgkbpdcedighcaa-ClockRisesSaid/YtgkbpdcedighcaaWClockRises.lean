/-
  The walk of the law ClockRises.
-/
import Derived.Test.YtgkbpdcedighcaaClockL
import Derived.Test.YtgkbpdcedighcaaOpen
namespace Go.Proofs.Ytgkbpdcedighcaa
open Go.RowKit Go.Sort

/-- The clock behind n accesses; the last one began at 'last'. -/
def RI (w : World) (b : Nat) (last n : Int) : Prop :=
  ∃ now cyc fast asked nf, At w b 98 (ck now cyc fast asked nf) ∧ 0 ≤ now ∧ now ≤ 24 * n ∧ n ≤ cyc ∧ cyc ≤ 2 * n ∧ (now - last = 3 ∨ now - last = 6 ∨ now - last = 12 ∨ now - last = 24) ∧ (n = 0 → now - last = 24)

theorem len_le (fast x : Bool) : len fast x ≤ 24 := by cases fast <;> cases x <;> decide

theorem len_cases (now : Int) (fast x : Bool) : now + len fast x - now = 3 ∨ now + len fast x - now = 6 ∨ now + len fast x - now = 12 ∨ now + len fast x - now = 24 := by
  cases fast <;> cases x <;> simp only [len] <;> simp <;> omega

set_option maxRecDepth 100000 in
set_option maxHeartbeats 4000000 in
theorem ClockRises_walk (w : World) (a2 : Option Addr) (len2 cap2 : Nat) (F2 : Nat → List Value) (s2 : SlR w a2 len2 cap2 1 (IsInt .u8) F2) :
    Calls Try.prog 4 #[.slice a2 len2 cap2] w fun e w' => e = .returned (.bool true) ∧ Below w.heap.size w w' := by
  obtain ⟨z2, hz2⟩ := s2.ints
  have HZ2 := Lib.hid hz2
  have hm2 := s2.max
  have hle2 := s2.le
  unfold maxLen at hm2
  clear s2 hz2
  by_cases hlong : 300 < len2
  · go_enter Try.func4, Try.ntmps4
    go_wp2_with fail
    refine (live02_any _).mono ?_
    rintro e w1 ⟨rfl, hB1⟩
    go_wp2
    go_ret
    exact ⟨rfl, hB1⟩
  go_enter Try.func4, Try.ntmps4
  go_wp2_with fail
  refine (live02_any _).mono ?_
  rintro e w1 ⟨rfl, hB1⟩
  go_wp2_with fail
  refine (New_any _).mono ?_
  rintro e w2 ⟨b, rfl, hb, hA2, hB2'⟩
  have HB2 := Lib.hid (step_below hB1 hB2')
  have hbw : w.heap.size ≤ b := Nat.le_trans hB1.size hb
  have HI : Hid (RI w2 b (-24) 0) := Lib.hid ⟨0, 0, false, false, false, hA2, by omega, by omega, by omega, by omega, by omega, by omega⟩
  clear hB1 hB2' hb hA2
  go_wp2_with fail
  go_loopw [4, 5, 6] (fun l m i wr => ∃ (k : Nat) (last n : Int), k ≤ len2 ∧ i = .int .i64 k ∧ l = .int .i64 last ∧ m = .int .i64 n ∧ 0 ≤ n ∧ n ≤ k ∧ Hid (RI wr b last n) ∧ Hid (Below w.heap.size w wr)) (fun _ _ i _ => len2 - (intOf i).toNat)
  case atStart => exact ⟨0, -24, 0, Nat.zero_le _, rfl, rfl, rfl, by omega, by omega, HI, HB2⟩
  case round =>
    obtain ⟨k, last, n, hk, rfl, rfl, rfl, hn0, hnk, HR, HB⟩ := hrel
    obtain ⟨now, cyc, fast, asked, nf, hA, p1, p2, p3, p4, p5, p6⟩ := HR.out
    have hnow : 0 ≤ now ∧ now ≤ 1152921504606846976 := by omega
    have hcyc : 0 ≤ cyc ∧ cyc ≤ 1152921504606846976 := by omega
    by_cases hlt : k < len2
    · obtain ⟨hwf, b2, off2, rfl, hbl, hc⟩ := HZ2.out k hlt
      have hbd := wf_bounds_u8 hwf
      have hcell : wr.cell? ⟨b2, off2 + k, none⟩ = some (.int .u8 (z2 k)) := (HB.out.cell (p := ⟨b2, off2 + k, none⟩) hbl).trans hc
      clear hc hwf
      generalize z2 k = z at hbd hcell
      have HP6 := Lib.hid p6
      clear p6
      have hk5 : z % 5 = 0 ∨ z % 5 = 1 ∨ z % 5 = 2 ∨ z % 5 = 3 ∨ z % 5 = 4 := by omega
      rcases hk5 with hk5 | hk5 | hk5 | hk5 | hk5
      · have hl := len_cases now fast false
        have hcell' : ∀ w', Below w.heap.size w w' → True := fun _ _ => trivial
        clear hcell'
        by_cases hn : 0 < n
        · rcases p5 with p5 | p5 | p5 | p5
          all_goals
            go_wp2_with fail
            refine (Cycle_any b now cyc fast asked nf false wr hA hnow.1 hnow.2 hcyc.1 hcyc.2).mono ?_
            rintro e w5 ⟨rfl, hA5, hU5⟩
            have HB5 := Lib.hid (step_upd HB.out hU5 hbw)
            have HL := Lib.hid hl
            clear hU5 hA HB hl hcell
            have hl24 : now + len fast false ≤ 24 * (n + 1) := by have := len_le fast false; omega
            go_wp2_with fail
            refine (Now_any b _ _ _ _ _ _ hA5).mono ?_
            rintro e w' ⟨rfl, rfl⟩
            have HA5 := Lib.hid hA5
            clear hA5
            go_wp2
            go_roundw
            case rel => exact ⟨k + 1, now, n + 1, by omega, by go_num, rfl, rfl, by omega, by omega, Lib.hid ⟨_, _, _, _, _, HA5.out, by have := HL.out; omega, by omega, by simp [idx]; omega, by simp [idx]; omega, HL.out, by omega⟩, HB5⟩
            case measure => simp [intOf]; omega
        · have p5 : now - last = 24 := HP6.out (by omega)
          obtain rfl : n = 0 := by omega
          go_wp2_with fail
          refine (Cycle_any b now cyc fast asked nf false wr hA hnow.1 hnow.2 hcyc.1 hcyc.2).mono ?_
          rintro e w5 ⟨rfl, hA5, hU5⟩
          have HB5 := Lib.hid (step_upd HB.out hU5 hbw)
          have HL := Lib.hid hl
          clear hU5 hA HB hl hcell
          have hl24 : now + len fast false ≤ 24 * (0 + 1) := by have := len_le fast false; omega
          go_wp2_with fail
          refine (Now_any b _ _ _ _ _ _ hA5).mono ?_
          rintro e w' ⟨rfl, rfl⟩
          have HA5 := Lib.hid hA5
          clear hA5
          go_wp2
          go_roundw
          case rel => exact ⟨k + 1, now, 1, by omega, by go_num, rfl, rfl, by omega, by omega, Lib.hid ⟨_, _, _, _, _, HA5.out, by have := HL.out; omega, by omega, by simp [idx]; omega, by simp [idx]; omega, HL.out, by omega⟩, HB5⟩
          case measure => simp [intOf]; omega
      · have hl := len_cases now fast true
        have hcell' : ∀ w', Below w.heap.size w w' → True := fun _ _ => trivial
        clear hcell'
        by_cases hn : 0 < n
        · rcases p5 with p5 | p5 | p5 | p5
          all_goals
            go_wp2_with fail
            refine (Cycle_any b now cyc fast asked nf true wr hA hnow.1 hnow.2 hcyc.1 hcyc.2).mono ?_
            rintro e w5 ⟨rfl, hA5, hU5⟩
            have HB5 := Lib.hid (step_upd HB.out hU5 hbw)
            have HL := Lib.hid hl
            clear hU5 hA HB hl hcell
            have hl24 : now + len fast true ≤ 24 * (n + 1) := by have := len_le fast true; omega
            go_wp2_with fail
            refine (Now_any b _ _ _ _ _ _ hA5).mono ?_
            rintro e w' ⟨rfl, rfl⟩
            have HA5 := Lib.hid hA5
            clear hA5
            go_wp2
            go_roundw
            case rel => exact ⟨k + 1, now, n + 1, by omega, by go_num, rfl, rfl, by omega, by omega, Lib.hid ⟨_, _, _, _, _, HA5.out, by have := HL.out; omega, by omega, by simp [idx]; omega, by simp [idx]; omega, HL.out, by omega⟩, HB5⟩
            case measure => simp [intOf]; omega
        · have p5 : now - last = 24 := HP6.out (by omega)
          obtain rfl : n = 0 := by omega
          go_wp2_with fail
          refine (Cycle_any b now cyc fast asked nf true wr hA hnow.1 hnow.2 hcyc.1 hcyc.2).mono ?_
          rintro e w5 ⟨rfl, hA5, hU5⟩
          have HB5 := Lib.hid (step_upd HB.out hU5 hbw)
          have HL := Lib.hid hl
          clear hU5 hA HB hl hcell
          have hl24 : now + len fast true ≤ 24 * (0 + 1) := by have := len_le fast true; omega
          go_wp2_with fail
          refine (Now_any b _ _ _ _ _ _ hA5).mono ?_
          rintro e w' ⟨rfl, rfl⟩
          have HA5 := Lib.hid hA5
          clear hA5
          go_wp2
          go_roundw
          case rel => exact ⟨k + 1, now, 1, by omega, by go_num, rfl, rfl, by omega, by omega, Lib.hid ⟨_, _, _, _, _, HA5.out, by have := HL.out; omega, by omega, by simp [idx]; omega, by simp [idx]; omega, HL.out, by omega⟩, HB5⟩
          case measure => simp [intOf]; omega
      · have HP5 := Lib.hid p5
        clear p5
        go_wp2_with fail
        refine (Ask_any b now cyc fast asked nf true wr hA).mono ?_
        rintro e w5 ⟨rfl, hA5, hU5⟩
        have HB5 := Lib.hid (step_upd HB.out hU5 hbw)
        have HA5 := Lib.hid hA5
        clear hU5 hA HB hcell hA5
        go_wp2
        go_roundw
        case rel => exact ⟨k + 1, last, n, by omega, by go_num, rfl, rfl, by omega, by omega, Lib.hid ⟨_, _, _, _, _, HA5.out, p1, p2, p3, p4, HP5.out, HP6.out⟩, HB5⟩
        case measure => simp [intOf]; omega
      · have HP5 := Lib.hid p5
        clear p5
        go_wp2_with fail
        refine (Ask_any b now cyc fast asked nf false wr hA).mono ?_
        rintro e w5 ⟨rfl, hA5, hU5⟩
        have HB5 := Lib.hid (step_upd HB.out hU5 hbw)
        have HA5 := Lib.hid hA5
        clear hU5 hA HB hcell hA5
        go_wp2
        go_roundw
        case rel => exact ⟨k + 1, last, n, by omega, by go_num, rfl, rfl, by omega, by omega, Lib.hid ⟨_, _, _, _, _, HA5.out, p1, p2, p3, p4, HP5.out, HP6.out⟩, HB5⟩
        case measure => simp [intOf]; omega
      · have HP5 := Lib.hid p5
        clear p5
        go_wp2_with fail
        refine (Turn_any b now cyc fast asked nf wr hA).mono ?_
        rintro e w5 ⟨rfl, hA5, hU5⟩
        have HB5 := Lib.hid (step_upd HB.out hU5 hbw)
        have HA5 := Lib.hid hA5
        clear hU5 hA HB hcell hA5
        go_wp2
        go_roundw
        case rel => exact ⟨k + 1, last, n, by omega, by go_num, rfl, rfl, by omega, by omega, Lib.hid ⟨_, _, _, _, _, HA5.out, p1, p2, p3, p4, HP5.out, HP6.out⟩, HB5⟩
        case measure => simp [intOf]; omega
    · have HP5 := Lib.hid p5
      have HP6 := Lib.hid p6
      clear p5 p6
      go_wp2_with fail
      refine (Now_any b _ _ _ _ _ _ hA).mono ?_
      rintro e w' ⟨rfl, rfl⟩
      go_wp2_with fail
      refine (Cycles_any b _ _ _ _ _ _ hA).mono ?_
      rintro e w' ⟨rfl, rfl⟩
      go_wp2_with fail
      refine (Cycles_any b _ _ _ _ _ _ hA).mono ?_
      rintro e w' ⟨rfl, rfl⟩
      go_wp2
      go_ret
      exact ⟨rfl, HB.out⟩
end Go.Proofs.Ytgkbpdcedighcaa
