/-
  The walks of lines: pass, Up, Next.
-/
import Derived.Test.YtgkbpdcedighcadLinesC
namespace Go.Proofs.Ytgkbpdcedighcad
open Go.RowKit Go.Sort

/-- The cells of lines. -/
def lz (a : Option Addr) (n cap seen : Nat) (u : Nat → Bool) (ro : Bool) : List Value := [.slice a n cap, .int .i64 (seen : Int), .bool (u 0), .bool (u 1), .bool (u 2), .bool (u 3), .bool ro]
theorem lz_up {a : Option Addr} {n cap seen : Nat} {u : Nat → Bool} {ro : Bool} {l : Nat} (h : l < 4) : (lz a n cap seen u ro)[2 + l]? = some (.bool (u l)) := by
  have : l = 0 ∨ l = 1 ∨ l = 2 ∨ l = 3 := by omega
  rcases this with rfl | rfl | rfl | rfl <;> rfl

section
variable (g : Nat) (a : Option Addr) (n cap seen : Nat) (u : Nat → Bool) (ro : Bool) (w : World)

theorem Up_any (l : Nat) (hl : l < 4) (hA : At w g 76 (lz a n cap seen u ro)) : Calls Try.prog 14 #[.pointer (some ⟨g, 0, none⟩), .int .u8 (l : Int)] w fun e w' => e = .returned (.bool (u l)) ∧ w = w' := by
  have cl := hA.cell (2 + l) (lz_up hl)
  have d1 : decide ((l : Int) < 4) = true := by rw [decide_eq_true_eq]; omega
  have hl0 : (0 : Int) ≤ (l : Int) := by omega
  have hl4 : (l : Int) < 4 := by omega
  clear hA
  have : l = 0 ∨ l = 1 ∨ l = 2 ∨ l = 3 := by omega
  rcases this with rfl | rfl | rfl | rfl
  all_goals
    go_enter Try.func14, Try.ntmps14
    go_wp2
    go_ret
    exact ⟨rfl, rfl⟩

set_option maxRecDepth 100000 in
set_option maxHeartbeats 4000000 in
theorem pass_any (st : Int) (ln : Nat) (up : Bool) (hln : ln < 4) (hs : seen ≤ 1000) (hA : At w g 76 (lz a n cap seen u ro)) :
    Calls Try.prog 40 #[.pointer (some ⟨g, 0, none⟩), .agg #[.int .i64 st, .int .u8 (ln : Int), .bool up]] w fun e w' => e = .returned (.tuple #[]) ∧ (∃ ro', At w' g 76 (lz a n cap (seen + 1) (fun i => if i = ln then up else u i) ro')) ∧ Upd (· = g) w w' := by
  have HA := Lib.hid hA
  clear hA
  obtain ⟨u1, hu1⟩ : ∃ x, x = u 1 := ⟨_, rfl⟩
  have HU1 := Lib.hid hu1
  have : ln = 0 ∨ ln = 1 ∨ ln = 2 ∨ ln = 3 := by omega
  clear hu1
  rcases this with rfl | rfl | rfl | rfl
  all_goals cases up <;> cases u1
  all_goals
    go_enter Try.func40, Try.ntmps40
    go_wp2_with fail
    refine allocs1 ?_
    intro w1 hE1 hb1 _
    have hA1 := HA.out.below hb1 HA.out.lt
    have HA1 := Lib.hid hA1
    have HU0 : Hid (Upd (· = g) w w1) := Lib.hid (Upd.of_below hb1)
    have a1 := hE1.cell 1 rfl
    have a2 := hE1.cell 2 rfl
    have b1 := hA1.cell 1 rfl
    have b2 := hA1.cell 2 rfl
    have b3 : w1.cell? ⟨g, 3, none⟩ = some (.bool (u 1)) := hA1.cell 3 rfl
    rw [← HU1.out] at b3
    have b4 := hA1.cell 4 rfl
    have b5 := hA1.cell 5 rfl
    have b6 := hA1.cell 6 rfl
    have f1 := hA1.frozen 1
    have f2 := hA1.frozen 2
    have f3 := hA1.frozen 3
    have f4 := hA1.frozen 4
    have f5 := hA1.frozen 5
    have f6 := hA1.frozen 6
    have hne := hE1.ne_ hA1 (by decide)
    clear hA1 hb1 hE1
    refine wp_region_quiet_lit (by kernel_rfl) (by kernel_rfl) ?_
    repeat (go_big_quiet_step ((fail)))
    refine wpQuiet_nil ?_
    intro _ hw'
    obtain ⟨nq, rfl⟩ := hw'
    go_wp2_with fail
    refine region_drew_tail 8 (by kernel_rfl) (by kernel_rfl) ?_
    simp only [List.take_succ_cons, List.take_zero, List.drop_succ_cons, List.drop_zero]
    repeat (go_big_quiet_step ((fail)))
    refine wpQuiet_nil ?_
    intro _ hw'
    obtain ⟨nq, rfl⟩ := hw'
    go_wp2
    go_end0
    refine ⟨rfl, ?hA, ?hU⟩
    case hA =>
      first
        | exact ⟨ro, by (apply At.of_eq; (repeat (first | (with_reducible apply At.set) | (with_reducible apply At.drew) | (with_reducible apply At.drewN) | exact HA1.out)); rfl)⟩
        | exact ⟨true, by (apply At.of_eq; (repeat (first | (with_reducible apply At.set) | (with_reducible apply At.drew) | (with_reducible apply At.drewN) | exact HA1.out)); rfl)⟩
    case hU =>
      (repeat (first | (with_reducible apply Upd.here) | (with_reducible apply Upd.drew) | (with_reducible apply Upd.drewN) | exact HU0.out))
end
end Go.Proofs.Ytgkbpdcedighcad
