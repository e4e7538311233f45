/-
  The walks of Timer.Write, ticks, Go.
-/
import Derived.Test.YtgkbpdcedighcaaTimer
namespace Go.Proofs.Ytgkbpdcedighcaa
open Go.RowKit Go.Sort

theorem Write0_any (b : Nat) (r c : Int) (on : Bool) (left x : Int) (w : World) (hA : At w b 115 (tk r c on left)) (hl : 0 < left) (h0 : 0 ≤ x) (h1 : x ≤ 255) :
    Calls Try.prog 43 #[.pointer (some ⟨b, 0, none⟩), .int .i64 0, .int .u8 x] w fun e w' => e = .returned (.tuple #[]) ∧ At w' b 115 (tk (x % 128) c on left) ∧ Upd (· = b) w w' := by
  have c0 := hA.cell 0 rfl
  have f0 := hA.frozen 0
  have e := and127 x h0 h1
  go_enter Try.func43, Try.ntmps43
  go_wp2_with fail
  refine (is_any b _ _ _ _ _ hA hl).mono ?_
  rintro e w' ⟨rfl, rfl⟩
  go_wp2
  first | go_end0 | refine bodyPost_ret (results_none rfl _ _ _) rfl ?_
  refine ⟨rfl, ?hA, ?hU⟩
  case hA =>
    (apply At.of_eq; (repeat (first | (with_reducible apply At.set) | (with_reducible apply At.drew) | (with_reducible apply At.drewN) | exact hA)); rfl)
  case hU =>
    (repeat (first | (with_reducible apply Upd.here) | (with_reducible apply Upd.drew) | (with_reducible apply Upd.drewN) | exact Upd.refl _ _))

set_option maxHeartbeats 1000000 in
theorem Write1_any (b : Nat) (r c : Int) (on : Bool) (left x : Int) (w : World) (hA : At w b 115 (tk r c on left)) (hl : 0 < left) (h0 : 0 ≤ x) (h1 : x ≤ 255) :
    Calls Try.prog 43 #[.pointer (some ⟨b, 0, none⟩), .int .i64 1, .int .u8 x] w fun e w' => e = .returned (.tuple #[]) ∧
      At w' b 115 (tk r (if decide (x % 2 = 1) && !on then r else c) (decide (x % 2 = 1)) (if decide (x % 2 = 1) && !on then 3072 else left)) ∧ Upd (· = b) w w' := by
  have c0 := hA.cell 0 rfl
  have c1 := hA.cell 1 rfl
  have c2 := hA.cell 2 rfl
  have c3 := hA.cell 3 rfl
  have f1 := hA.frozen 1
  have f2 := hA.frozen 2
  have f3 := hA.frozen 3
  have e1 := and1 x h0 h1
  rcases (by omega : x % 2 = 0 ∨ x % 2 = 1) with e2 | e2
  · rw [e2] at e1
    rw [show decide (x % 2 = 1) = false by simp; omega]
    clear e2
    go_enter Try.func43, Try.ntmps43
    go_wp2_with fail
    refine (is_any b _ _ _ _ _ hA hl).mono ?_
    rintro e w' ⟨rfl, rfl⟩
    go_wp2
    first | go_end0 | refine bodyPost_ret (results_none rfl _ _ _) rfl ?_
    refine ⟨rfl, ?hA, ?hU⟩
    case hA =>
      (apply At.of_eq; (repeat (first | (with_reducible apply At.set) | (with_reducible apply At.drew) | (with_reducible apply At.drewN) | exact hA)); rfl)
    case hU =>
      (repeat (first | (with_reducible apply Upd.here) | (with_reducible apply Upd.drew) | (with_reducible apply Upd.drewN) | exact Upd.refl _ _))
  · rw [e2] at e1
    rw [show decide (x % 2 = 1) = true by simp; omega]
    clear e2
    cases on
    · go_enter Try.func43, Try.ntmps43
      go_wp2_with fail
      refine (is_any b _ _ _ _ _ hA hl).mono ?_
      rintro e w' ⟨rfl, rfl⟩
      go_wp2
      first | go_end0 | refine bodyPost_ret (results_none rfl _ _ _) rfl ?_
      refine ⟨rfl, ?hA, ?hU⟩
      case hA =>
        (apply At.of_eq; (repeat (first | (with_reducible apply At.set) | (with_reducible apply At.drew) | (with_reducible apply At.drewN) | exact hA)); rfl)
      case hU =>
        (repeat (first | (with_reducible apply Upd.here) | (with_reducible apply Upd.drew) | (with_reducible apply Upd.drewN) | exact Upd.refl _ _))
    · go_enter Try.func43, Try.ntmps43
      go_wp2_with fail
      refine (is_any b _ _ _ _ _ hA hl).mono ?_
      rintro e w' ⟨rfl, rfl⟩
      go_wp2
      first | go_end0 | refine bodyPost_ret (results_none rfl _ _ _) rfl ?_
      refine ⟨rfl, ?hA, ?hU⟩
      case hA =>
        (apply At.of_eq; (repeat (first | (with_reducible apply At.set) | (with_reducible apply At.drew) | (with_reducible apply At.drewN) | exact hA)); rfl)
      case hU =>
        (repeat (first | (with_reducible apply Upd.here) | (with_reducible apply Upd.drew) | (with_reducible apply Upd.drewN) | exact Upd.refl _ _))
theorem WriteN_any (b : Nat) (r c : Int) (on : Bool) (left x reg : Int) (w : World) (hA : At w b 115 (tk r c on left)) (hl : 0 < left) (h0 : reg ≠ 0) (h1 : reg ≠ 1) :
    Calls Try.prog 43 #[.pointer (some ⟨b, 0, none⟩), .int .i64 reg, .int .u8 x] w fun e w' => e = .returned (.tuple #[]) ∧ w = w' := by
  have g0 : (reg == 0) = false := by simp [h0]
  have g1 : (reg == 1) = false := by simp [h1]
  go_enter Try.func43, Try.ntmps43
  go_wp2_with fail
  refine (is_any b _ _ _ _ _ hA hl).mono ?_
  rintro e w' ⟨rfl, rfl⟩
  go_wp2
  first | go_end0 | refine bodyPost_ret (results_none rfl _ _ _) rfl ?_
  exact ⟨rfl, rfl⟩
theorem Write_nil (reg x : Int) (w : World) : Calls Try.prog 43 #[.pointer none, .int .i64 reg, .int .u8 x] w fun e w' => e = .returned (.tuple #[]) ∧ w = w' := by
  go_enter Try.func43, Try.ntmps43
  go_wp2_with fail
  refine (is_nil _).mono ?_
  rintro e w' ⟨rfl, rfl⟩
  go_wp2
  first | go_end0 | refine bodyPost_ret (results_none rfl _ _ _) rfl ?_
  exact ⟨rfl, rfl⟩

/-- k ticks: the counter, and how often it is over. -/
def tC (r c k : Int) : Int := if k ≤ c then c - k else r - (k - (c + 1)) % (r + 1)
def tO (r c k : Int) : Int := if k ≤ c then 0 else (k - (c + 1)) / (r + 1) + 1

set_option maxHeartbeats 1000000 in
theorem ticks_any (b : Nat) (r c : Int) (on : Bool) (left k : Int) (w : World) (hA : At w b 115 (tk r c on left)) (r0 : 0 ≤ r) (r1 : r ≤ 127) (c0 : 0 ≤ c) (c1 : c ≤ 127) (k0 : 1 ≤ k) (k1 : k ≤ 1152921504606846976) :
    Calls Try.prog 71 #[.pointer (some ⟨b, 0, none⟩), .int .i64 k] w fun e w' => e = .returned (.int .i64 (tO r c k)) ∧ At w' b 115 (tk r (tC r c k) on left) ∧ Upd (· = b) w w' := by
  have d0 := hA.cell 0 rfl
  have d1 := hA.cell 1 rfl
  have f1 := hA.frozen 1
  by_cases hk : k ≤ c
  · have e1 : tC r c k = c - k := by unfold tC; rw [if_pos hk]
    have e2 : tO r c k = 0 := by unfold tO; rw [if_pos hk]
    rw [e1, e2]
    clear e1 e2
    go_enter Try.func71, Try.ntmps71
    go_wp2
    go_ret
    refine ⟨rfl, ?hA, ?hU⟩
    case hA =>
      (apply At.of_eq; (repeat (first | (with_reducible apply At.set) | (with_reducible apply At.drew) | (with_reducible apply At.drewN) | exact hA)); rfl)
    case hU =>
      (repeat (first | (with_reducible apply Upd.here) | (with_reducible apply Upd.drew) | (with_reducible apply Upd.drewN) | exact Upd.refl _ _))
  · have e1 : tC r c k = r - (k - (c + 1)) % (r + 1) := by unfold tC; rw [if_neg hk]
    have e2 : tO r c k = (k - (c + 1)) / (r + 1) + 1 := by unfold tO; rw [if_neg hk]
    rw [e1, e2]
    clear e1 e2
    have m0 : 0 ≤ (k - (c + 1)) % (r + 1) := Int.emod_nonneg _ (by omega)
    have m1 : (k - (c + 1)) % (r + 1) < r + 1 := Int.emod_lt_of_pos _ (by omega)
    have q0 : 0 ≤ (k - (c + 1)) / (r + 1) := Int.ediv_nonneg (by omega) (by omega)
    have q1 : (k - (c + 1)) / (r + 1) ≤ k - (c + 1) := Int.ediv_le_self _ (by omega)
    go_enter Try.func71, Try.ntmps71
    go_wp2
    go_region
    go_wp2
    go_ret
    refine ⟨rfl, ?hA, ?hU⟩
    case hA =>
      (apply At.of_eq; (repeat (first | (with_reducible apply At.set) | (with_reducible apply At.drew) | (with_reducible apply At.drewN) | exact hA)); rfl)
    case hU =>
      (repeat (first | (with_reducible apply Upd.here) | (with_reducible apply Upd.drew) | (with_reducible apply Upd.drewN) | exact Upd.refl _ _))

/-- n master clocks, 0 < n. -/
def gL (left n : Int) : Int := if n < left then left - n else 3072 - (n - left) % 3072
def gC (r c left n : Int) : Int := if n < left then c else tC r c ((n - left) / 3072 + 1)
def gO (r c left n : Int) : Int := if n < left then 0 else tO r c ((n - left) / 3072 + 1)

theorem Go_off (b : Nat) (r c : Int) (on : Bool) (left n : Int) (w : World) (hA : At w b 115 (tk r c on left)) (l0 : 0 < left) (hn : on = false ∨ n ≤ 0) :
    Calls Try.prog 44 #[.pointer (some ⟨b, 0, none⟩), .int .i64 n] w fun e w' => e = .returned (.int .i64 0) ∧ w = w' := by
  have d2 := hA.cell 2 rfl
  cases on
  · go_enter Try.func44, Try.ntmps44
    go_wp2_with fail
    refine (is_any b _ _ _ _ _ hA l0).mono ?_
    rintro e w' ⟨rfl, rfl⟩
    go_wp2
    go_ret
    exact ⟨rfl, rfl⟩
  · have hn : n ≤ 0 := by simpa using hn
    go_enter Try.func44, Try.ntmps44
    go_wp2_with fail
    refine (is_any b _ _ _ _ _ hA l0).mono ?_
    rintro e w' ⟨rfl, rfl⟩
    go_wp2
    go_ret
    exact ⟨rfl, rfl⟩
theorem Go_nil (n : Int) (w : World) : Calls Try.prog 44 #[.pointer none, .int .i64 n] w fun e w' => e = .returned (.int .i64 0) ∧ w = w' := by
  go_enter Try.func44, Try.ntmps44
  go_wp2_with fail
  refine (is_nil _).mono ?_
  rintro e w' ⟨rfl, rfl⟩
  go_wp2
  go_ret
  exact ⟨rfl, rfl⟩

set_option maxHeartbeats 1000000 in
theorem Go_any (b : Nat) (r c left n : Int) (w : World) (hA : At w b 115 (tk r c true left)) (r0 : 0 ≤ r) (r1 : r ≤ 127) (c0 : 0 ≤ c) (c1 : c ≤ 127) (l0 : 1 ≤ left) (l1 : left ≤ 3072) (n0 : 1 ≤ n) (n1 : n ≤ 1152921504606846976) :
    Calls Try.prog 44 #[.pointer (some ⟨b, 0, none⟩), .int .i64 n] w fun e w' => e = .returned (.int .i64 (gO r c left n)) ∧ At w' b 115 (tk r (gC r c left n) true (gL left n)) ∧ Upd (· = b) w w' := by
  have d2 := hA.cell 2 rfl
  have d3 := hA.cell 3 rfl
  have f3 := hA.frozen 3
  have hpos : ¬ n ≤ 0 := by omega
  by_cases hk : n < left
  · have e1 : gO r c left n = 0 := by unfold gO; rw [if_pos hk]
    have e2 : gC r c left n = c := by unfold gC; rw [if_pos hk]
    have e3 : gL left n = left - n := by unfold gL; rw [if_pos hk]
    rw [e1, e2, e3]
    clear e1 e2 e3
    go_enter Try.func44, Try.ntmps44
    go_wp2_with fail
    refine (is_any b _ _ _ _ _ hA (by omega)).mono ?_
    rintro e w' ⟨rfl, rfl⟩
    go_wp2
    go_ret
    refine ⟨rfl, ?hA, ?hU⟩
    case hA =>
      (apply At.of_eq; (repeat (first | (with_reducible apply At.set) | (with_reducible apply At.drew) | (with_reducible apply At.drewN) | exact hA)); rfl)
    case hU =>
      (repeat (first | (with_reducible apply Upd.here) | (with_reducible apply Upd.drew) | (with_reducible apply Upd.drewN) | exact Upd.refl _ _))
  · have e1 : gO r c left n = tO r c ((n - left) / 3072 + 1) := by unfold gO; rw [if_neg hk]
    have e2 : gC r c left n = tC r c ((n - left) / 3072 + 1) := by unfold gC; rw [if_neg hk]
    have e3 : gL left n = 3072 - (n - left) % 3072 := by unfold gL; rw [if_neg hk]
    rw [e1, e2, e3]
    clear e1 e2 e3
    go_enter Try.func44, Try.ntmps44
    go_wp2_with fail
    refine (is_any b _ _ _ _ _ hA (by omega)).mono ?_
    rintro e w' ⟨rfl, rfl⟩
    go_wp2_with fail
    refine (ticks_any b r c true _ ((n - left) / 3072 + 1) _ (hA.set 3 _) r0 r1 c0 c1 (by omega) (by omega)).mono ?_
    rintro e w1 ⟨rfl, hA1, hU1⟩
    go_wp2
    go_ret
    exact ⟨rfl, hA1, ((Upd.refl _ _).here _).trans hU1 fun _ _ h => h⟩
end Go.Proofs.Ytgkbpdcedighcaa
