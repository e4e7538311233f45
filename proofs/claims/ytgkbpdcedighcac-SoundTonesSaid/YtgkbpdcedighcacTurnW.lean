/-
  The walks of turns.wrong and its kin.
-/
import Derived.Test.YtgkbpdcedighcacTurnOf
namespace Go.Proofs.Ytgkbpdcedighcac
open Go.RowKit Go.Sort

def beyB (x : Int) : Bool := decide (x < -262144) || decide (262144 < x)
def badB (z : Nat → Int) : Nat → Bool
  | 0 => false
  | n + 1 => badB z n || beyB (z n)
theorem badB_mono (z : Nat → Int) {k n : Nat} (h : badB z k = true) (hk : k ≤ n) : badB z n = true := by
  induction n with
  | zero => rw [show k = 0 by omega] at h; exact h
  | succ n ih =>
    by_cases hkn : k = n + 1
    · subst hkn; exact h
    · simp [badB, ih (by omega)]
theorem badB_no (z : Nat → Int) {n : Nat} (h : badB z n = false) : ∀ i, i < n → -262144 ≤ z i ∧ z i ≤ 262144 := by
  induction n with
  | zero => intro i hi; omega
  | succ n ih =>
    rw [badB, Bool.or_eq_false_iff] at h
    intro i hi
    by_cases hin : i = n
    · subst hin
      have h2 := h.2
      simp only [beyB, Bool.or_eq_false_iff, decide_eq_false_iff_not] at h2
      omega
    · exact ih h.1 i (by omega)
def wrongZ (z : Nat → Int) (n : Nat) : Int := if 4096 < n then 2 else if badB z n then 1 else 0
theorem wrongZ_long {z : Nat → Int} {n : Nat} (h : 4096 < n) : wrongZ z n = 2 := by rw [wrongZ, if_pos h]
theorem wrongZ_bad {z : Nat → Int} {n : Nat} (h : ¬ 4096 < n) (hb : badB z n = true) : wrongZ z n = 1 := by rw [wrongZ, if_neg h, if_pos hb]
theorem wrongZ_ok {z : Nat → Int} {n : Nat} (h : ¬ 4096 < n) (hb : badB z n = false) : wrongZ z n = 0 := by rw [wrongZ, if_neg h, hb]; rfl

theorem Beyond_any (x : Int) (w : World) : Calls Try.prog 141 #[.int .i64 x] w fun e w' => e = .returned (.bool (beyB x)) ∧ w = w' := by
  unfold beyB
  by_cases h1 : x < -262144
  · rw [decide_eq_true h1]
    go_enter Try.func141, Try.ntmps141
    go_wp2
    go_ret
    exact ⟨rfl, rfl⟩
  · rw [decide_eq_false h1]
    go_enter Try.func141, Try.ntmps141
    go_wp2
    go_ret
    exact ⟨rfl, rfl⟩

set_option maxRecDepth 100000 in
set_option maxHeartbeats 1000000 in
theorem Index_any (a : Option Addr) (n cap : Nat) (z : Nat → Int) (w : World) (hz : IntsAt w a n z) (hn : n ≤ 4611686018427387904) :
    Calls Try.prog 144 #[.slice a n cap, .func (.func 141) #[] #[]] w fun e w' => (∃ r : Int, e = .returned (.int .i64 r) ∧ decide (0 ≤ r) = badB z n) ∧ w = w' := by
  have HZ := Lib.hid hz
  clear hz
  go_enter Try.func144, Try.ntmps144
  go_wp2_with fail
  go_loop [8] (fun i => ∃ k : Nat, k ≤ n ∧ i = .int .i64 k ∧ Hid (badB z k = false)) (fun i => n - (intOf i).toNat)
  case atStart => exact ⟨0, by omega, rfl, Lib.hid rfl⟩
  case round =>
    obtain ⟨k, hk, rfl, HK⟩ := hrel
    by_cases hlt : k < n
    · obtain ⟨b, off, rfl, hbw, hc⟩ := HZ.out k hlt
      go_wp2_with fail
      refine (Beyond_any (z k) w).mono ?_
      rintro e _ ⟨rfl, rfl⟩
      cases hb : beyB (z k)
      · have HK1 : Hid (badB z (k + 1) = false) := Lib.hid (by rw [badB, HK.out, hb]; rfl)
        clear hb
        go_wp2
        go_round
        case rel => exact ⟨k + 1, by omega, by go_num, HK1⟩
        case measure => simp [intOf]; omega
      · have HK1 := Lib.hid (badB_mono z (k := k + 1) (by rw [badB, hb]; simp) hlt)
        clear hb
        go_wp2
        go_ret
        exact ⟨⟨_, rfl, by rw [HK1.out]; simp⟩, rfl⟩
    · obtain rfl : k = n := by omega
      go_wp2
      go_ret
      exact ⟨⟨_, rfl, by rw [HK.out]; rfl⟩, rfl⟩

theorem Cont_any (a : Option Addr) (n cap : Nat) (z : Nat → Int) (w : World) (hz : IntsAt w a n z) (hn : n ≤ 4611686018427387904) :
    Calls Try.prog 140 #[.slice a n cap, .func (.func 141) #[] #[]] w fun e w' => e = .returned (.bool (badB z n)) ∧ w = w' := by
  have HZ := Lib.hid hz
  clear hz
  go_enter Try.func140, Try.ntmps140
  go_wp2_with fail
  refine (Index_any a n cap z w HZ.out hn).mono ?_
  rintro e _ ⟨⟨r, rfl, hr⟩, rfl⟩
  go_wp2
  go_ret
  exact ⟨by rw [← hr]; rfl, rfl⟩

theorem Wrong_any (a : Option Addr) (n cap : Nat) (z : Nat → Int) (w : World) (hz : IntsAt w a n z) (hn : n ≤ 4611686018427387904) :
    Calls Try.prog 122 #[.slice a n cap] w fun e w' => e = .returned (.int .i64 (wrongZ z n)) ∧ w = w' := by
  have HZ := Lib.hid hz
  clear hz
  by_cases h1 : 4096 < n
  · have hd : decide (4096 < (n : Int)) = true := by rw [decide_eq_true_eq]; omega
    go_enter Try.func122, Try.ntmps122
    go_wp2
    go_ret
    exact ⟨by rw [wrongZ_long h1]; rfl, rfl⟩
  · have hd : decide (4096 < (n : Int)) = false := by rw [decide_eq_false_iff_not]; omega
    go_enter Try.func122, Try.ntmps122
    go_wp2_with fail
    refine (Cont_any a n cap z w HZ.out hn).mono ?_
    rintro e _ ⟨rfl, rfl⟩
    obtain ⟨c, hc⟩ : ∃ c, c = badB z n := ⟨_, rfl⟩
    rw [← hc]
    have HC := Lib.hid hc
    clear hc
    cases c
    · go_wp2
      go_ret
      exact ⟨by rw [wrongZ_ok h1 HC.out.symm]; rfl, rfl⟩
    · go_wp2
      go_ret
      exact ⟨by rw [wrongZ_bad h1 HC.out.symm]; rfl, rfl⟩

end Go.Proofs.Ytgkbpdcedighcac
