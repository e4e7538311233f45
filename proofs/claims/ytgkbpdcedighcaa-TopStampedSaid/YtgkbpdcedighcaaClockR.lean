/-
  The walks of the reference's clock; what makes a clock.
-/
import Derived.Test.YtgkbpdcedighcaaClockW
namespace Go.Proofs.Ytgkbpdcedighcaa
open Go.RowKit Go.Sort

/-- The cells of the reference's clock. -/
def rk (now cyc : Int) (fast asked nf : Bool) : List Value := [.int .i64 now, .bool fast, .int .i64 cyc, .bool asked, .bool nf]

theorem Length2_any (fast extra : Bool) (w : World) : Calls Try.prog 64 #[.bool fast, .bool extra] w fun e w' => e = .returned (.int .i64 (len fast extra)) ∧ w = w' := by
  cases fast <;> cases extra
  all_goals
    go_enter Try.func64, Try.ntmps64
    go_wp2
    go_ret
    exact ⟨rfl, rfl⟩

set_option maxHeartbeats 400000 in
theorem Cycle2_any (b : Nat) (now cyc : Int) (fast asked nf x : Bool) (w : World) (hA : At w b 30 (rk now cyc fast asked nf)) (h1 : 0 ≤ now) (h2 : now ≤ 1152921504606846976) (h3 : 0 ≤ cyc) (h4 : cyc ≤ 1152921504606846976) :
    Calls Try.prog 29 #[.pointer (some ⟨b, 0, none⟩), .bool x] w fun e w' => e = .returned (.int .i64 now) ∧ At w' b 30 (rk (now + len fast x) (cyc + (1 + idx x)) fast asked nf) ∧ Upd (· = b) w w' := by
  have c0 := hA.cell 0 rfl
  have c1 := hA.cell 1 rfl
  have c2 := hA.cell 2 rfl
  have f0 := hA.frozen 0
  have f2 := hA.frozen 2
  have hl : 0 ≤ len fast x ∧ len fast x ≤ 24 := by cases fast <;> cases x <;> decide
  have HA := Lib.hid hA
  clear hA
  cases x
  all_goals
    go_enter Try.func29, Try.ntmps29
    go_wp2_with fail
    refine (Length2_any _ _ _).mono ?_
    rintro e w' ⟨rfl, rfl⟩
    go_wp2
    go_ret
    refine ⟨rfl, ?hA, ?hU⟩
    case hA =>
      (apply At.of_eq; (repeat (first | (with_reducible apply At.set) | (with_reducible apply At.drew) | (with_reducible apply At.drewN) | exact HA.out)); (simp [rk, idx, Int.add_assoc]))
    case hU =>
      (repeat (first | (with_reducible apply Upd.here) | (with_reducible apply Upd.drew) | (with_reducible apply Upd.drewN) | exact Upd.refl _ _))

theorem Ask2_any (b : Nat) (now cyc : Int) (fast asked nf x : Bool) (w : World) (hA : At w b 30 (rk now cyc fast asked nf)) :
    Calls Try.prog 61 #[.pointer (some ⟨b, 0, none⟩), .bool x] w fun e w' => e = .returned (.tuple #[]) ∧ At w' b 30 (rk now cyc fast true x) ∧ Upd (· = b) w w' := by
  have c3 := hA.cell 3 rfl
  have c4 := hA.cell 4 rfl
  have f3 := hA.frozen 3
  have f4 := hA.frozen 4
  go_enter Try.func61, Try.ntmps61
  go_wp2
  go_end0
  refine ⟨rfl, ?hA, ?hU⟩
  case hA =>
    (apply At.of_eq; (repeat (first | (with_reducible apply At.set) | (with_reducible apply At.drew) | (with_reducible apply At.drewN) | exact hA)); rfl)
  case hU =>
    (repeat (first | (with_reducible apply Upd.here) | (with_reducible apply Upd.drew) | (with_reducible apply Upd.drewN) | exact Upd.refl _ _))

theorem Turn2_any (b : Nat) (now cyc : Int) (fast asked nf : Bool) (w : World) (hA : At w b 30 (rk now cyc fast asked nf)) :
    Calls Try.prog 62 #[.pointer (some ⟨b, 0, none⟩)] w fun e w' => e = .returned (.tuple #[]) ∧ At w' b 30 (rk now cyc (if asked then nf else fast) false nf) ∧ Upd (· = b) w w' := by
  have c1 := hA.cell 1 rfl
  have c3 := hA.cell 3 rfl
  have c4 := hA.cell 4 rfl
  have f1 := hA.frozen 1
  have f3 := hA.frozen 3
  cases asked
  all_goals
    go_enter Try.func62, Try.ntmps62
    go_wp2
    go_end0
    refine ⟨rfl, ?hA, ?hU⟩
    case hA =>
      (apply At.of_eq; (repeat (first | (with_reducible apply At.set) | (with_reducible apply At.drew) | (with_reducible apply At.drewN) | exact hA)); rfl)
    case hU =>
      (repeat (first | (with_reducible apply Upd.here) | (with_reducible apply Upd.drew) | (with_reducible apply Upd.drewN) | exact Upd.refl _ _))

/-- A new block with these cells, and nothing else turned. -/
def Made (w w' : World) (t : TypeId) (cs : List Value) (e : Ending) : Prop :=
  ∃ b, e = .returned (.pointer (some ⟨b, 0, none⟩)) ∧ w.heap.size ≤ b ∧ At w' b t cs ∧ Below w.heap.size w w'

set_option maxHeartbeats 400000 in
theorem Copy2_any (b : Nat) (now cyc : Int) (fast asked nf : Bool) (w : World) (hA : At w b 30 (rk now cyc fast asked nf)) :
    Calls Try.prog 23 #[.pointer (some ⟨b, 0, none⟩)] w fun e w' => Made w w' 30 (rk now cyc fast asked nf) e := by
  have c0 := hA.cell 0 rfl
  have c1 := hA.cell 1 rfl
  have c2 := hA.cell 2 rfl
  have c3 := hA.cell 3 rfl
  have c4 := hA.cell 4 rfl
  go_enter Try.func23, Try.ntmps23
  go_wp2_with fail
  refine region_drew_tail 21 (by kernel_rfl) (by kernel_rfl) ?_
  simp only [List.take_succ_cons, List.take_zero, List.drop_succ_cons, List.drop_zero]
  repeat (go_big_quiet_step ((fail)))
  refine wpQuiet_nil ?_
  intro _ hw'
  obtain ⟨nq, rfl⟩ := hw'
  go_wp2
  go_ret
  refine ⟨w.heap.size, rfl, Nat.le_refl _, ?_, ?_⟩
  · exact At.new (w.drewN nq) _ _
  · exact (Upd.drewN (Upd.refl (fun _ => False) w) nq).to_below (fun b hb => ⟨hb, id⟩) |>.alloc (by simp) _

def clampI (n : Int) : Int := if n < 0 then 0 else if 1125899906842624 < n then 1125899906842624 else n

theorem made_new (w : World) (t : TypeId) (cs : Array Value) {cs' : List Value} (h : cs.toList = cs') : Made w (w.alloc (.cells cs t)) t cs' (.returned (.pointer (some ⟨w.heap.size, 0, none⟩))) :=
  ⟨w.heap.size, rfl, Nat.le_refl _, (At.new w cs t).of_eq h, (Below.refl _ w).alloc (Nat.le_refl _) _⟩

theorem At_any (now : Int) (fast : Bool) (w : World) : Calls Try.prog 16 #[.int .i64 now, .bool fast] w fun e w' => Made w w' 98 (ck (clampI now) 0 fast false false) e := by
  by_cases h1 : now < 0
  · have e1 : clampI now = 0 := by unfold clampI; rw [if_pos h1]
    rw [e1]
    clear e1
    go_enter Try.func16, Try.ntmps16
    go_wp2
    go_ret
    exact made_new _ _ _ rfl
  · by_cases h2 : 1125899906842624 < now
    · have e1 : clampI now = 1125899906842624 := by unfold clampI; rw [if_neg h1, if_pos h2]
      rw [e1]
      clear e1
      go_enter Try.func16, Try.ntmps16
      go_wp2
      go_ret
      exact made_new _ _ _ rfl
    · have e1 : clampI now = now := by unfold clampI; rw [if_neg h1, if_neg h2]
      rw [e1]
      clear e1
      go_enter Try.func16, Try.ntmps16
      go_wp2
      go_ret
      exact made_new _ _ _ rfl
theorem At2_any (now : Int) (fast : Bool) (w : World) : Calls Try.prog 17 #[.int .i64 now, .bool fast] w fun e w' => Made w w' 30 (rk (clampI now) 0 fast false false) e := by
  by_cases h1 : now < 0
  · have e1 : clampI now = 0 := by unfold clampI; rw [if_pos h1]
    rw [e1]
    clear e1
    go_enter Try.func17, Try.ntmps17
    go_wp2
    go_ret
    exact made_new _ _ _ rfl
  · by_cases h2 : 1125899906842624 < now
    · have e1 : clampI now = 1125899906842624 := by unfold clampI; rw [if_neg h1, if_pos h2]
      rw [e1]
      clear e1
      go_enter Try.func17, Try.ntmps17
      go_wp2
      go_ret
      exact made_new _ _ _ rfl
    · have e1 : clampI now = now := by unfold clampI; rw [if_neg h1, if_neg h2]
      rw [e1]
      clear e1
      go_enter Try.func17, Try.ntmps17
      go_wp2
      go_ret
      exact made_new _ _ _ rfl
theorem New_any (w : World) : Calls Try.prog 24 #[] w fun e w' => Made w w' 98 (ck 0 0 false false false) e := by
  go_enter Try.func24, Try.ntmps24
  go_wp2_with fail
  refine (At_any 0 false _).mono ?_
  rintro e w1 ⟨b, rfl, h1, h2, h3⟩
  go_wp2
  go_ret
  exact ⟨b, rfl, h1, h2, h3⟩
theorem Clone_any (b : Nat) (now cyc : Int) (fast asked nf : Bool) (w : World) (hA : At w b 98 (ck now cyc fast asked nf)) :
    Calls Try.prog 22 #[.pointer (some ⟨b, 0, none⟩)] w fun e w' => Made w w' 98 (ck now cyc fast asked nf) e := by
  have c0 := hA.cell 0 rfl
  have c1 := hA.cell 1 rfl
  have c2 := hA.cell 2 rfl
  have c3 := hA.cell 3 rfl
  have c4 := hA.cell 4 rfl
  go_enter Try.func22, Try.ntmps22
  go_wp2
  go_ret
  exact made_new _ _ _ rfl

/-! A pointer that is nil. -/
theorem Now_nil (w : World) : Calls Try.prog 18 #[.pointer none] w fun e w' => e = .returned (.int .i64 0) ∧ w = w' := by
  go_enter Try.func18, Try.ntmps18
  go_wp2
  go_ret
  exact ⟨rfl, rfl⟩
theorem Fast_nil (w : World) : Calls Try.prog 19 #[.pointer none] w fun e w' => e = .returned (.bool false) ∧ w = w' := by
  go_enter Try.func19, Try.ntmps19
  go_wp2
  go_ret
  exact ⟨rfl, rfl⟩
theorem Cycles_nil (w : World) : Calls Try.prog 20 #[.pointer none] w fun e w' => e = .returned (.int .i64 0) ∧ w = w' := by
  go_enter Try.func20, Try.ntmps20
  go_wp2
  go_ret
  exact ⟨rfl, rfl⟩
theorem Cycle_nil (x : Bool) (w : World) : Calls Try.prog 25 #[.pointer none, .bool x] w fun e w' => e = .returned (.int .i64 0) ∧ w = w' := by
  go_enter Try.func25, Try.ntmps25
  go_wp2
  go_ret
  exact ⟨rfl, rfl⟩
theorem Ask_nil (x : Bool) (w : World) : Calls Try.prog 26 #[.pointer none, .bool x] w fun e w' => e = .returned (.tuple #[]) ∧ w = w' := by
  go_enter Try.func26, Try.ntmps26
  go_wp2
  first | go_end0 | refine bodyPost_ret (results_none rfl _ _ _) rfl ?_
  exact ⟨rfl, rfl⟩
theorem Turn_nil (w : World) : Calls Try.prog 27 #[.pointer none] w fun e w' => e = .returned (.tuple #[]) ∧ w = w' := by
  go_enter Try.func27, Try.ntmps27
  go_wp2
  first | go_end0 | refine bodyPost_ret (results_none rfl _ _ _) rfl ?_
  exact ⟨rfl, rfl⟩
theorem Clone_nil (w : World) : Calls Try.prog 22 #[.pointer none] w fun e w' => e = .returned (.pointer none) ∧ w = w' := by
  go_enter Try.func22, Try.ntmps22
  go_wp2
  go_ret
  exact ⟨rfl, rfl⟩
end Go.Proofs.Ytgkbpdcedighcaa
