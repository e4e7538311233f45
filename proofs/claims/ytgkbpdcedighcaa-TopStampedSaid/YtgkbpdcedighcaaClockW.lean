/-
  The walks of the package clock.
-/
import Derived.Test.YtgkbpdcedighcaaRows
import Derived.WalkKit
import Derived.WalkSpells
import Derived.WalkLawsBesides
import Derived.Deep.QuietTactic
import Derived.BigQuiet
import Derived.Lib.QuietBelow
import Derived.Deep.RegionWith
import Derived.Outline
import Derived.Test.YtgkbpdcedighcaaRegion
namespace Go.Proofs.Ytgkbpdcedighcaa
open Go.RowKit Go.Sort

def idx (b : Bool) : Int := if b then 1 else 0

theorem index_any (b : Bool) (w : World) : Calls Try.prog 63 #[.bool b] w fun e w' => e = .returned (.int .i64 (idx b)) ∧ w = w' := by
  cases b
  · go_enter Try.func63, Try.ntmps63
    go_wp2
    go_ret
    exact ⟨rfl, rfl⟩
  · go_enter Try.func63, Try.ntmps63
    go_wp2
    go_ret
    exact ⟨rfl, rfl⟩

theorem index_t (w : World) : Calls Try.prog 63 #[.bool true] w fun e w' => e = .returned (.int .i64 1) ∧ Below w.heap.size w w' :=
  (index_any true w).mono fun _ _ h => ⟨h.1, h.2 ▸ Below.refl _ _⟩
theorem index_f (w : World) : Calls Try.prog 63 #[.bool false] w fun e w' => e = .returned (.int .i64 0) ∧ Below w.heap.size w w' :=
  (index_any false w).mono fun _ _ h => ⟨h.1, h.2 ▸ Below.refl _ _⟩

theorem lengths_any (w : World) : Calls Try.prog 78 #[] w fun e w' => e = .returned (.agg #[.int .i64 12, .int .i64 24, .int .i64 3, .int .i64 6]) ∧ Below w.heap.size w w' := by
  go_enter Try.func78, Try.ntmps78
  go_wp2
  refine bodyPost_ret (v := .agg #[.int .i64 12, .int .i64 24, .int .i64 3, .int .i64 6]) (by simp [results, Try.results78, go_sem]) rfl ⟨rfl, ?_⟩
  repeat (first | exact Below.refl _ _ | refine Below.alloc ?_ (by simp) _ | refine Below.setCell ?_ (by simp) _)

def len (fast extra : Bool) : Int := if fast then (if extra then 6 else 3) else (if extra then 24 else 12)

theorem Length_any (fast extra : Bool) (w : World) : Calls Try.prog 58 #[.bool fast, .bool extra] w fun e w' => e = .returned (.int .i64 (len fast extra)) ∧ Below w.heap.size w w' := by
  have i0 : ∀ w, (Instr.index 124 (.agg #[.int .i64 12, .int .i64 24, .int .i64 3, .int .i64 6]) (.int .i64 0)).run Try.prog w = .ok (.agg #[.int .i64 12, .int .i64 24]) w := fun _ => by kernel_rfl
  have i1 : ∀ w, (Instr.index 124 (.agg #[.int .i64 12, .int .i64 24, .int .i64 3, .int .i64 6]) (.int .i64 1)).run Try.prog w = .ok (.agg #[.int .i64 3, .int .i64 6]) w := fun _ => by kernel_rfl
  have j0 : ∀ a b w, (Instr.index 123 (.agg #[.int .i64 a, .int .i64 b]) (.int .i64 0)).run Try.prog w = .ok (.int .i64 a) w := fun _ _ _ => by kernel_rfl
  have j1 : ∀ a b w, (Instr.index 123 (.agg #[.int .i64 a, .int .i64 b]) (.int .i64 1)).run Try.prog w = .ok (.int .i64 b) w := fun _ _ _ => by kernel_rfl
  cases fast <;> cases extra
  all_goals
    go_enter Try.func58, Try.ntmps58
    go_wp2_with fail
    refine wp_region_quiet_below (by kernel_rfl) (by kernel_rfl) ?_
    repeat (go_big_quiet_step ((first | (go_at_call 78; exact Calls.regrown_of (lengths_any _)) | (go_at_call_of 63 (Value.bool true); exact Calls.regrown_of (index_t _)) | (go_at_call_of 63 (Value.bool false); exact Calls.regrown_of (index_f _)))))
    refine wpQuiet_nil ?_
    intro w1 hw'
    have hb : Below w.heap.size w w1 := by
      obtain ⟨p, rfl⟩ := hw'
      exact below_regrown _ _ _
    clear hw'
    go_wp2
    go_ret
    exact ⟨rfl, hb⟩

/-- The cells of a clock. -/
def ck (now cyc : Int) (fast asked nf : Bool) : List Value := [.int .i64 now, .int .i64 cyc, .bool fast, .bool asked, .bool nf]
abbrev CT : TypeId := 98

theorem Now_any (b : Nat) (now cyc : Int) (fast asked nf : Bool) (w : World) (hA : At w b 98 (ck now cyc fast asked nf)) :
    Calls Try.prog 18 #[.pointer (some ⟨b, 0, none⟩)] w fun e w' => e = .returned (.int .i64 now) ∧ w = w' := by
  have c0 := hA.cell 0 rfl
  go_enter Try.func18, Try.ntmps18
  go_wp2
  go_ret
  exact ⟨rfl, rfl⟩
theorem Fast_any (b : Nat) (now cyc : Int) (fast asked nf : Bool) (w : World) (hA : At w b 98 (ck now cyc fast asked nf)) :
    Calls Try.prog 19 #[.pointer (some ⟨b, 0, none⟩)] w fun e w' => e = .returned (.bool fast) ∧ w = w' := by
  have c0 := hA.cell 2 rfl
  go_enter Try.func19, Try.ntmps19
  go_wp2
  go_ret
  exact ⟨rfl, rfl⟩
theorem Cycles_any (b : Nat) (now cyc : Int) (fast asked nf : Bool) (w : World) (hA : At w b 98 (ck now cyc fast asked nf)) :
    Calls Try.prog 20 #[.pointer (some ⟨b, 0, none⟩)] w fun e w' => e = .returned (.int .i64 cyc) ∧ w = w' := by
  have c0 := hA.cell 1 rfl
  go_enter Try.func20, Try.ntmps20
  go_wp2
  go_ret
  exact ⟨rfl, rfl⟩
theorem Ask_any (b : Nat) (now cyc : Int) (fast asked nf x : Bool) (w : World) (hA : At w b 98 (ck now cyc fast asked nf)) :
    Calls Try.prog 26 #[.pointer (some ⟨b, 0, none⟩), .bool x] w fun e w' => e = .returned (.tuple #[]) ∧ At w' b 98 (ck now cyc fast true x) ∧ Upd (· = b) w w' := by
  have c3 := hA.cell 3 rfl
  have c4 := hA.cell 4 rfl
  have f3 := hA.frozen 3
  have f4 := hA.frozen 4
  go_enter Try.func26, Try.ntmps26
  go_wp2
  go_end0
  refine ⟨rfl, ?hA, ?hU⟩
  case hA => (apply At.of_eq; (repeat (first | (with_reducible apply At.set) | (with_reducible apply At.drew) | exact hA)); rfl)
  case hU => repeat (first | (with_reducible apply Upd.here) | (with_reducible apply Upd.drew) | exact Upd.refl _ _)
set_option maxHeartbeats 800000 in
theorem Turn_any (b : Nat) (now cyc : Int) (fast asked nf : Bool) (w : World) (hA : At w b 98 (ck now cyc fast asked nf)) :
    Calls Try.prog 27 #[.pointer (some ⟨b, 0, none⟩)] w fun e w' => e = .returned (.tuple #[]) ∧ At w' b 98 (ck now cyc (if asked || nf then nf else fast) false false) ∧ Upd (· = b) w w' := by
  have c2 := hA.cell 2 rfl
  have c3 := hA.cell 3 rfl
  have c4 := hA.cell 4 rfl
  have f2 := hA.frozen 2
  have f3 := hA.frozen 3
  have f4 := hA.frozen 4
  cases asked <;> cases nf
  all_goals
    go_enter Try.func27, Try.ntmps27
    go_wp2
  all_goals try (go_region; go_wp2)
  all_goals
    first | go_end0 | refine bodyPost_ret (results_none rfl _ _ _) rfl ?_
    refine ⟨rfl, ?hA, ?hU⟩
    case hA => (apply At.of_eq; (repeat (first | (with_reducible apply At.set) | (with_reducible apply At.drew) | exact hA)); rfl)
    case hU => repeat (first | (with_reducible apply Upd.here) | (with_reducible apply Upd.drew) | exact Upd.refl _ _)

set_option maxHeartbeats 400000 in
theorem Cycle_any (b : Nat) (now cyc : Int) (fast asked nf x : Bool) (w : World) (hA : At w b 98 (ck now cyc fast asked nf)) (h1 : 0 ≤ now) (h2 : now ≤ 1152921504606846976) (h3 : 0 ≤ cyc) (h4 : cyc ≤ 1152921504606846976) :
    Calls Try.prog 25 #[.pointer (some ⟨b, 0, none⟩), .bool x] w fun e w' => e = .returned (.int .i64 now) ∧ At w' b 98 (ck (now + len fast x) (cyc + (1 + idx x)) fast asked nf) ∧ Upd (· = b) w w' := by
  have c0 := hA.cell 0 rfl
  have c2 := hA.cell 2 rfl
  have r0 := hA.regrown 0 rfl
  have r2 := hA.regrown 2 rfl
  have hl : 0 ≤ len fast x ∧ len fast x ≤ 24 := by cases fast <;> cases x <;> decide
  go_enter Try.func25, Try.ntmps25
  go_wp2_with fail
  refine region_below_tail 13 (by kernel_rfl) (by kernel_rfl) ?_
  simp only [List.take_succ_cons, List.take_zero, List.drop_succ_cons, List.drop_zero]
  repeat (go_big_quiet_step ((go_at_call 58; exact Calls.regrown_of (Length_any _ _ _))))
  refine wpQuiet_nil ?_
  intro w1 hw'
  have hb : Below w.heap.size w w1 := by
    obtain ⟨p, rfl⟩ := hw'
    exact below_regrown _ _ _
  clear hw' c0 c2 r0 r2
  have a1 : At w1 b 98 _ := hA.below hb hA.lt
  have d0 := a1.cell 0 rfl
  have d1 := a1.cell 1 rfl
  have f0 := a1.frozen 0
  have f1 := a1.frozen 1
  go_wp2_with fail
  have u2 : Upd (· = b) w (w1.setCell ⟨b, 0, none⟩ (.int .i64 (now + len fast x))) := (Upd.of_below hb).here _
  have a2 := At.set a1 0 (.int .i64 (now + len fast x))
  clear a1 d0 d1 f0 f1 hb
  generalize w1.setCell ⟨b, 0, none⟩ (.int .i64 (now + len fast x)) = w2 at *
  have r1 := a2.regrown 1 rfl
  have hi : 0 ≤ idx x ∧ idx x ≤ 1 := by cases x <;> decide
  refine region_below_tail 10 (by kernel_rfl) (by kernel_rfl) ?_
  simp only [List.take_succ_cons, List.take_zero, List.drop_succ_cons, List.drop_zero]
  repeat (go_big_quiet_step ((go_at_call 63; exact Calls.regrown_of ((index_any _ _).mono fun _ _ h => ⟨h.1, h.2 ▸ Below.refl _ _⟩))))
  refine wpQuiet_nil ?_
  intro w3 hw'
  have hb : Below w2.heap.size w2 w3 := by
    obtain ⟨p, rfl⟩ := hw'
    exact below_regrown _ _ _
  clear hw' r1
  have a3 : At w3 b 98 _ := a2.below hb a2.lt
  have d1 := a3.cell 1 rfl
  have f1 := a3.frozen 1
  have u3 : Upd (· = b) w w3 := u2.trans (Upd.of_below (S := fun _ => False) hb) (fun _ _ h => h.elim)
  clear hb a2 u2
  go_wp2
  go_ret
  refine ⟨rfl, ?hA, ?hU⟩
  case hA => (apply At.of_eq; (repeat (first | (with_reducible apply At.set) | (with_reducible apply At.drew) | exact a3)); rfl)
  case hU => repeat (first | (with_reducible apply Upd.here) | (with_reducible apply Upd.drew) | exact u3)
end Go.Proofs.Ytgkbpdcedighcaa
