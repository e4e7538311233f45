/-
  Of layer 17: more walks.
-/
import Derived.Test.YtgkbpdcedighcabTurnW
namespace Go.Proofs.Ytgkbpdcedighcab
open Go.RowKit Go.Sort

set_option maxRecDepth 100000 in
set_option maxHeartbeats 1000000 in
theorem RWrong_any (a : Option Addr) (n cap : Nat) (z : Nat → Int) (w : World) (hz : IntsAt w a n z) (hn : n ≤ 4611686018427387904) :
    Calls Try.prog 57 #[.slice a n cap] w fun e w' => e = .returned (.int .i64 (wrongZ z n)) ∧ w = w' := by
  have HZ := Lib.hid hz
  clear hz
  by_cases h1 : 4096 < n
  · have hd : decide (4096 < (n : Int)) = true := by rw [decide_eq_true_eq]; omega
    go_enter Try.func57, Try.ntmps57
    go_wp2
    go_ret
    exact ⟨by rw [wrongZ_long h1]; rfl, rfl⟩
  · have hd : decide (4096 < (n : Int)) = false := by rw [decide_eq_false_iff_not]; omega
    go_enter Try.func57, Try.ntmps57
    go_wp2_with fail
    go_loop [3] (fun i => ∃ k : Nat, k ≤ n ∧ i = .int .i64 k ∧ Hid (badB z k = false)) (fun i => n - (intOf i).toNat)
    case atStart => exact ⟨0, by omega, rfl, Lib.hid rfl⟩
    case round =>
      obtain ⟨k, hk, rfl, HK⟩ := hrel
      by_cases hlt : k < n
      · obtain ⟨b, off, rfl, hbw, hc⟩ := HZ.out k hlt
        cases hb : beyB (z k)
        · have HK1 : Hid (badB z (k + 1) = false) := Lib.hid (by rw [badB, HK.out, hb]; rfl)
          simp only [beyB, Bool.or_eq_false_iff] at hb
          obtain ⟨hb1, hb2⟩ := hb
          go_wp2
          go_round
          case rel => exact ⟨k + 1, by omega, by go_num, HK1⟩
          case measure => simp [intOf]; omega
        · have HK1 := Lib.hid (badB_mono z (k := k + 1) (by rw [badB, hb]; simp) hlt)
          cases hb1 : decide (z k < -262144)
          · have hb2 : decide (262144 < z k) = true := by simpa [beyB, hb1] using hb
            clear hb
            go_wp2
            go_ret
            exact ⟨by rw [wrongZ_bad h1 HK1.out]; rfl, rfl⟩
          · clear hb
            go_wp2
            go_ret
            exact ⟨by rw [wrongZ_bad h1 HK1.out]; rfl, rfl⟩
      · obtain rfl : k = n := by omega
        go_wp2
        go_ret
        exact ⟨by rw [wrongZ_ok h1 HK.out]; rfl, rfl⟩

set_option maxRecDepth 100000 in
theorem Whole_any (v : Value) (m k : Int) (w : World) (hv : CZ v m k) (hm : -9007199254740992 ≤ m ∧ m ≤ 9007199254740992) :
    Calls Try.prog 53 #[v] w fun e w' => e = .returned (.tuple #[.int .i64 (m.tdiv 4), .bool (decide (m.tmod 4 = 0) && decide (k = 0))]) ∧ w = w' := by
  obtain ⟨a, b, rfl, ha, hb⟩ := hv
  have h1 := fun w => fint_fact (P := Try.prog) ha hm 80 3 rfl rfl w
  have h2 := feq_zero hb
  obtain ⟨q, hq⟩ : ∃ q, m.tdiv 4 = q := ⟨_, rfl⟩
  obtain ⟨r, hr⟩ : ∃ r, m.tmod 4 = r := ⟨_, rfl⟩
  have hq2 : -9007199254740992 ≤ q ∧ q ≤ 9007199254740992 := by
    have := Int.natAbs_tdiv m 4
    rw [hq] at this
    have h4 : (4 : Int).natAbs = 4 := rfl
    rw [h4] at this
    replace this : q.natAbs = m.natAbs / 4 := this
    omega
  rw [hq, hr]
  have h3 : (binOp .eql 80 (.float .f64 b) (.float .f64 0)).run Try.prog w = .ok (.bool (decide (k = 0))) w := by
    rw [binOp_float_cmp_eql, h2]
    rfl
  have hrb : (r == 0) = decide (r = 0) := by
    by_cases h : r = 0
    · subst h; rfl
    · rw [decide_eq_false h]; exact beq_eq_false_iff_ne.2 h
  cases hr0 : decide (r = 0)
  · rw [hr0] at hrb
    go_enter Try.func53, Try.ntmps53
    go_wp2
    go_ret2
    exact ⟨rfl, rfl⟩
  · rw [hr0] at hrb
    go_enter Try.func53, Try.ntmps53
    go_wp2
    go_ret2
    exact ⟨rfl, rfl⟩
end Go.Proofs.Ytgkbpdcedighcab
