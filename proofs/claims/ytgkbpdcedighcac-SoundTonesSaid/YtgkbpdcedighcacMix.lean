/-
  The walks of mix: Loss, Power, both, sides, swing, voice.
-/
import Derived.Test.YtgkbpdcedighcacWaveP
import Derived.Test.YtgkbpdcedighcacCplx
import Derived.Test.YtgkbpdcedighcacRow
import Derived.Test.YtgkbpdcedighcacRows
import Derived.Test.YtgkbpdcedighcacIndex
namespace Go.Proofs.Ytgkbpdcedighcac
open Go.RowKit Go.Sort

def lossZ (v b m : Nat) : Int := 31 - ((v % 32 : Nat) : Int) + 2 * (15 - ((b % 16 : Nat) : Int)) + 2 * (15 - ((m % 16 : Nat) : Int))
theorem lossZ_bd (v b m : Nat) : 0 ≤ lossZ v b m ∧ lossZ v b m ≤ 91 := by unfold lossZ; omega
def powT (r : Nat) : Nat := if r = 0 then 4096 else if r = 1 then 3444 else if r = 2 then 2896 else 2435
def powZ (l : Int) : Int := if l < 0 then 4096 else if 48 ≤ l then 0 else ((powT (l.toNat % 4) / 2 ^ (l.toNat / 4) : Nat) : Int)
theorem powT_le (r : Nat) : powT r ≤ 4096 := by
  unfold powT
  split
  · omega
  · split
    · omega
    · split <;> omega
theorem powZ_bd (l : Int) : 0 ≤ powZ l ∧ powZ l ≤ 4096 := by
  unfold powZ
  split
  · omega
  · split
    · omega
    · have := powT_le (l.toNat % 4)
      have h := Nat.div_le_self (powT (l.toNat % 4)) (2 ^ (l.toNat / 4))
      generalize powT (l.toNat % 4) / 2 ^ (l.toNat / 4) = k at *
      omega
def swZ (l : Nat) : Int := 2 * ((l % 32 : Nat) : Int) - 31
theorem swZ_bd (l : Nat) : -31 ≤ swZ l ∧ swZ l ≤ 31 := by unfold swZ; omega
def sideZ (l v b m : Nat) : Int := swZ l * powZ (lossZ v b m)
theorem sideZ_bd (l v b m : Nat) : -126976 ≤ sideZ l v b m ∧ sideZ l v b m ≤ 126976 := by
  have h1 := swZ_bd l
  have h2 := powZ_bd (lossZ v b m)
  unfold sideZ
  generalize swZ l = s at *
  generalize powZ (lossZ v b m) = p at *
  have h3 : s * p ≤ 31 * p := Int.mul_le_mul_of_nonneg_right h1.2 h2.1
  have h4 : -31 * p ≤ s * p := Int.mul_le_mul_of_nonneg_right h1.1 h2.1
  omega

theorem Loss_any (v b m : Nat) (w : World) (hv : v < 256) (hb : b < 256) (hm : m < 256) : Calls Try.prog 17 #[.int .u8 (v : Int), .int .u8 (b : Int), .int .u8 (m : Int)] w fun e w' => e = .returned (.int .i64 (lossZ v b m)) ∧ w = w' := by
  have e1 := u8_and31' v hv
  have e2 := u8_and15' b hb
  have e3 := u8_and15' m hm
  have HZ : Hid (lossZ v b m = 31 - ((v % 32 : Nat) : Int) + 2 * (15 - ((b % 16 : Nat) : Int)) + 2 * (15 - ((m % 16 : Nat) : Int))) := Lib.hid rfl
  have h1 : v % 32 < 32 := by omega
  have h2 : b % 16 < 16 := by omega
  have h3 : m % 16 < 16 := by omega
  generalize v % 32 = q at *
  generalize b % 16 = r at *
  generalize m % 16 = s at *
  go_enter Try.func17, Try.ntmps17
  go_wp2
  go_ret
  exact ⟨by rw [HZ.out]; rfl, rfl⟩

set_option maxRecDepth 100000 in
theorem Power_any (l : Int) (w : World) : Calls Try.prog 16 #[.int .i64 l] w fun e w' => e = .returned (.int .i64 (powZ l)) ∧ Below w.heap.size w w' := by
  have HZ : Hid (powZ l = if l < 0 then 4096 else if 48 ≤ l then 0 else ((powT (l.toNat % 4) / 2 ^ (l.toNat / 4) : Nat) : Int)) := Lib.hid rfl
  by_cases h0 : l < 0
  · have d0 : decide (l < 0) = true := decide_eq_true h0
    go_enter Try.func16, Try.ntmps16
    go_wp2
    go_ret
    exact ⟨by rw [HZ.out, if_pos h0]; rfl, (Below.refl _ _).alloc (Nat.le_refl _) _⟩
  · have d0 : decide (l < 0) = false := decide_eq_false h0
    by_cases h1 : 48 ≤ l
    · have d1 : decide (48 ≤ l) = true := decide_eq_true h1
      go_enter Try.func16, Try.ntmps16
      go_wp2
      go_ret
      exact ⟨by rw [HZ.out, if_neg (Int.not_lt.2 h0), if_pos h1]; rfl, (Below.refl _ _).alloc (Nat.le_refl _) _⟩
    · have d1 : decide (48 ≤ l) = false := decide_eq_false h1
      obtain ⟨n, rfl⟩ : ∃ n : Nat, l = n := ⟨l.toNat, by omega⟩
      have m1 : (n : Int).tmod 4 = ((n % 4 : Nat) : Int) := by rw [Int.tmod_eq_emod_of_nonneg (by omega)]; rfl
      have m2 : (n : Int).tdiv 4 = ((n / 4 : Nat) : Int) := by rw [Int.tdiv_eq_ediv_of_nonneg (by omega)]; rfl
      have HZ2 : Hid (powZ n = ((powT (n % 4) / 2 ^ (n / 4) : Nat) : Int)) := Lib.hid (by rw [HZ.out, if_neg h0, if_neg h1]; rfl)
      have hr : n % 4 < 4 := by omega
      have hq : n / 4 < 12 := by omega
      generalize n % 4 = r at *
      generalize n / 4 = q at *
      go_enter Try.func16, Try.ntmps16
      have hr' : r = 0 ∨ r = 1 ∨ r = 2 ∨ r = 3 := by omega
      rcases hr' with rfl | rfl | rfl | rfl
      all_goals
        go_wp2
        go_ret
        exact ⟨by rw [HZ2.out, Int.natCast_ediv, Int.natCast_pow]; rfl, (Below.refl _ _).alloc (Nat.le_refl _) _⟩

theorem both_any (m n : Int) (w : World) : Calls Try.prog 74 #[.int .i64 m, .int .i64 n] w fun e w' => e = .returned (.complex .f64 (floatOfInt .f64 m) (floatOfInt .f64 n)) ∧ w = w' := by
  go_enter Try.func74, Try.ntmps74
  go_wp2
  go_ret
  exact ⟨rfl, rfl⟩

theorem sides_any (v : Value) (m n : Int) (w : World) (h : CZ v m n) (hm : -9007199254740992 ≤ m ∧ m ≤ 9007199254740992) (hn : -9007199254740992 ≤ n ∧ n ≤ 9007199254740992) :
    Calls Try.prog 65 #[v] w fun e w' => e = .returned (.tuple #[.int .i64 m, .int .i64 n]) ∧ w = w' := by
  obtain ⟨a, b, rfl, ha, hb⟩ := h
  have f1 := fint_fact (P := Try.prog) ha hm 131 3 (by kernel_rfl) Try.underlying3 w
  have f2 := fint_fact (P := Try.prog) hb hn 131 3 (by kernel_rfl) Try.underlying3 w
  go_enter Try.func65, Try.ntmps65
  go_wp2
  go_ret2
  exact ⟨rfl, rfl⟩

theorem swing_any (l : Nat) (w : World) (hl : l < 256) : Calls Try.prog 128 #[.int .u8 (l : Int)] w fun e w' => e = .returned (.int .i64 (swZ l)) ∧ w = w' := by
  have e1 := u8_and31' l hl
  have HZ : Hid (swZ l = 2 * ((l % 32 : Nat) : Int) - 31) := Lib.hid rfl
  have h1 : l % 32 < 32 := by omega
  generalize l % 32 = q at *
  go_enter Try.func128, Try.ntmps128
  go_wp2
  go_ret
  exact ⟨by rw [HZ.out]; rfl, rfl⟩

/-- A voice's four bytes. -/
def vcs (a b c d : Nat) : List Value := [.int .u8 (a : Int), .int .u8 (b : Int), .int .u8 (c : Int), .int .u8 (d : Int)]

set_option maxRecDepth 100000 in
set_option maxHeartbeats 1000000 in
theorem voice_any (lv vo le ri l r : Nat) (w : World) (h1 : lv < 256) (h2 : vo < 256) (h3 : le < 256) (h4 : ri < 256) (h5 : l < 256) (h6 : r < 256) :
    Calls Try.prog 108 #[.agg (vcs lv vo le ri).toArray, .int .u8 (l : Int), .int .u8 (r : Int)] w fun e w' => e = .returned (.complex .f64 (floatOfInt .f64 (sideZ lv vo le l)) (floatOfInt .f64 (sideZ lv vo ri r))) ∧ Below w.heap.size w w' := by
  rw [show (vcs lv vo le ri).toArray = #[.int .u8 (lv : Int), .int .u8 (vo : Int), .int .u8 (le : Int), .int .u8 (ri : Int)] from rfl]
  go_enter Try.func108, Try.ntmps108
  go_wp2_with fail
  refine allocs1 (F := fun w => Calls _ _ _ w _) ?_
  intro w1 hA1 hB1 _
  have HB1 := Lib.hid hB1
  have c1 := hA1.regrown 1 rfl
  have c2 := hA1.regrown 2 rfl
  have c3 := hA1.regrown 3 rfl
  refine (swing_any lv w1 h1).mono ?_
  rintro e _ ⟨rfl, rfl⟩
  clear hB1
  have b1 := swZ_bd lv
  have b2 := powZ_bd (lossZ vo le l)
  have b3 := powZ_bd (lossZ vo ri r)
  have k1 := fun d os => Calls.regrown_of ((Loss_any vo le l (grow (redrawn w1 d) os) h2 h3 h5).mono fun _ _ h => ⟨h.1, h.2 ▸ Below.refl _ _⟩)
  have k2 := fun d os => Calls.regrown_of ((Loss_any vo ri r (grow (redrawn w1 d) os) h2 h4 h6).mono fun _ _ h => ⟨h.1, h.2 ▸ Below.refl _ _⟩)
  have k3 := fun d os => Calls.regrown_of (Power_any (lossZ vo le l) (grow (redrawn w1 d) os))
  have k4 := fun d os => Calls.regrown_of (Power_any (lossZ vo ri r) (grow (redrawn w1 d) os))
  have k5 := fun d os => Calls.regrown_of ((both_any (swZ lv * powZ (lossZ vo le l)) (swZ lv * powZ (lossZ vo ri r)) (grow (redrawn w1 d) os)).mono fun _ _ h => ⟨h.1, h.2 ▸ Below.refl _ _⟩)
  have HS1 : Hid (sideZ lv vo le l = swZ lv * powZ (lossZ vo le l)) := Lib.hid rfl
  have HS2 : Hid (sideZ lv vo ri r = swZ lv * powZ (lossZ vo ri r)) := Lib.hid rfl
  have hb1 := sideZ_bd lv vo le l
  have hb2 := sideZ_bd lv vo ri r
  rw [HS1.out] at hb1
  rw [HS2.out] at hb2
  generalize powZ (lossZ vo le l) = p1 at *
  generalize powZ (lossZ vo ri r) = p2 at *
  generalize swZ lv = sw at *
  generalize lossZ vo le l = l1 at *
  generalize lossZ vo ri r = l2 at *
  go_wp2_with fail
  refine wp_region_quiet_below (by kernel_rfl) (by kernel_rfl) ?_
  repeat (go_big_quiet_step (first
      | (go_at_call 17; with_reducible exact k1 _ _)
      | (go_at_call 17; with_reducible exact k2 _ _)
      | (go_at_call 16; with_reducible exact k3 _ _)
      | (go_at_call 16; with_reducible exact k4 _ _)
      | (go_at_call 74; with_reducible exact k5 _ _)))
  refine wpQuiet_nil ?_
  intro w3 hw'
  have hb3 := below_of_regrown hw'
  clear hw'
  go_wp2
  go_ret
  exact ⟨by rw [HS1.out, HS2.out]; rfl, step_below HB1.out hb3⟩
end Go.Proofs.Ytgkbpdcedighcac
