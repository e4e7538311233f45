/-
  The walks of the package noise: the Noise.
-/
import Derived.Test.YtgkbpdcedighcacNoiseU
import Derived.Test.YtgkbpdcedighcacNoiseQ
namespace Go.Proofs.Ytgkbpdcedighcac
open Go.RowKit Go.Sort NoiseP

/-- The cells of a Noise. -/
def nz (s : Nat) (l p : Int) : List Value := [.int .u32 (s : Int), .int .i64 l, .int .i64 p]

theorem u8_31 (f : Int) (h0 : 0 ≤ f) (h1 : f ≤ 255) : bits .and .u8 f 31 = f % 32 := by
  have : ∀ i : Fin 256, bits .and .u8 (i.val : Int) 31 = (i.val : Int) % 32 := by decide +kernel
  have := this ⟨f.toNat, by omega⟩
  simpa [Int.toNat_of_nonneg h0] using this

theorem Period_any (f : Int) (w : World) (h0 : 0 ≤ f) (h1 : f ≤ 255) :
    Calls Try.prog 111 #[.int .u8 f] w fun e w' => e = .returned (.int .i64 (perI f)) ∧ w = w' := by
  have e := u8_31 f h0 h1
  by_cases h2 : f % 32 = 31
  · rw [h2] at e
    rw [perI, if_pos h2]
    clear h2
    go_enter Try.func111, Try.ntmps111
    go_wp2
    go_ret
    exact ⟨rfl, rfl⟩
  · rw [perI, if_neg h2]
    have h3 : decide (31 - f % 32 = 0) = false := by simp; omega
    go_enter Try.func111, Try.ntmps111
    go_wp2
    go_ret
    exact ⟨rfl, rfl⟩

theorem New_any (f : Int) (w : World) (h0 : 0 ≤ f) (h1 : f ≤ 255) :
    Calls Try.prog 81 #[.int .u8 f] w fun e w' => Made w w' 175 (nz 1 (perI f) (perI f)) e := by
  go_enter Try.func81, Try.ntmps81
  go_wp2_with fail
  refine (Period_any f w h0 h1).mono ?_
  rintro e w' ⟨rfl, rfl⟩
  go_wp2
  go_ret
  exact made_new w _ _ rfl

theorem Set_any (b : Nat) (s : Nat) (l p f : Int) (w : World) (hA : At w b 175 (nz s l p)) (h0 : 0 ≤ f) (h1 : f ≤ 255) :
    Calls Try.prog 93 #[.pointer (some ⟨b, 0, none⟩), .int .u8 f] w fun e w' => e = .returned (.tuple #[]) ∧ At w' b 175 (nz s l (perI f)) ∧ Upd (· = b) w w' := by
  have c2 := hA.cell 2 rfl
  have f2 := hA.frozen 2
  go_enter Try.func93, Try.ntmps93
  go_wp2_with fail
  refine (Period_any f w h0 h1).mono ?_
  rintro e w' ⟨rfl, rfl⟩
  go_wp2
  first | go_end0 | refine bodyPost_ret (results_none rfl _ _ _) rfl ?_
  refine ⟨rfl, ?hA, ?hU⟩
  case hA =>
    (apply At.of_eq; (repeat (first | (with_reducible apply At.set) | (with_reducible apply At.drew) | (with_reducible apply At.drewN) | exact hA)); rfl)
  case hU =>
    (repeat (first | (with_reducible apply Upd.here) | (with_reducible apply Upd.drew) | (with_reducible apply Upd.drewN) | exact Upd.refl _ _))

theorem Set_nil (f : Int) (w : World) :
    Calls Try.prog 93 #[.pointer none, .int .u8 f] w fun e w' => e = .returned (.tuple #[]) ∧ w = w' := by
  go_enter Try.func93, Try.ntmps93
  go_wp2
  first | go_end0 | refine bodyPost_ret (results_none rfl _ _ _) rfl ?_
  exact ⟨rfl, rfl⟩

theorem Go_nil (n : Int) (w : World) :
    Calls Try.prog 89 #[.pointer none, .int .i64 n] w fun e w' => e = .returned (.tuple #[]) ∧ w = w' := by
  go_enter Try.func89, Try.ntmps89
  go_wp2
  first | go_end0 | refine bodyPost_ret (results_none rfl _ _ _) rfl ?_
  exact ⟨rfl, rfl⟩

theorem State_nil (w : World) : Calls Try.prog 115 #[.pointer none] w fun e w' => e = .returned (.int .u32 0) ∧ w = w' := by
  go_enter Try.func115, Try.ntmps115
  go_wp2
  go_ret
  exact ⟨rfl, rfl⟩
theorem State_any (b : Nat) (s : Nat) (l p : Int) (w : World) (hA : At w b 175 (nz s l p)) :
    Calls Try.prog 115 #[.pointer (some ⟨b, 0, none⟩)] w fun e w' => e = .returned (.int .u32 (s : Int)) ∧ w = w' := by
  have c0 := hA.cell 0 rfl
  go_enter Try.func115, Try.ntmps115
  go_wp2
  go_ret
  exact ⟨rfl, rfl⟩
def levN (s : Nat) : Int := ((s % 2 * 31 : Nat) : Int)
theorem u32_odd (s : Nat) (hs : s < 4294967296) : bits .and .u32 (s : Int) 1 = ((s % 2 : Nat) : Int) := by
  have := u32_and s 1 hs (by omega)
  rw [Nat.and_one_is_mod] at this
  exact this
theorem Level_nil (w : World) : Calls Try.prog 91 #[.pointer none] w fun e w' => e = .returned (.int .u8 0) ∧ w = w' := by
  have ho := u32_odd 0 (by omega)
  go_enter Try.func91, Try.ntmps91
  go_wp2_with fail
  refine (State_nil w).mono ?_
  rintro e w' ⟨rfl, rfl⟩
  go_wp2
  go_ret
  exact ⟨rfl, rfl⟩
theorem Level_any (b : Nat) (s : Nat) (l p : Int) (w : World) (hA : At w b 175 (nz s l p)) (hs : s < 4294967296) :
    Calls Try.prog 91 #[.pointer (some ⟨b, 0, none⟩)] w fun e w' => e = .returned (.int .u8 (levN s)) ∧ w = w' := by
  have ho := u32_odd s hs
  rcases Nat.mod_two_eq_zero_or_one s with hm | hm
  all_goals
    rw [levN, hm]
    rw [hm] at ho
    clear hm
    go_enter Try.func91, Try.ntmps91
    go_wp2_with fail
    refine (State_any b s l p w hA).mono ?_
    rintro e w' ⟨rfl, rfl⟩
    go_wp2
    go_ret
    exact ⟨rfl, rfl⟩

set_option maxHeartbeats 1000000 in
theorem Go_any (b : Nat) (s : Nat) (l p n : Int) (w : World) (hA : At w b 175 (nz s l p)) (hs : s < 262144) (hl : 1 ≤ l ∧ l ≤ 1984) (hp : 1 ≤ p ∧ p ≤ 1984) (hn : 0 ≤ n ∧ n ≤ 1099511627776) :
    Calls Try.prog 89 #[.pointer (some ⟨b, 0, none⟩), .int .i64 n] w fun e w' => e = .returned (.tuple #[]) ∧ At w' b 175 (nz (goS s l p n) (goL l p n) p) ∧ Upd (· = b) w w' := by
  have c0 := hA.cell 0 rfl
  have c1 := hA.cell 1 rfl
  have c2 := hA.cell 2 rfl
  have f0 := hA.frozen 0
  have f1 := hA.frozen 1
  have HA := Lib.hid hA
  clear hA
  have d1 : decide (p = 0) = false := by simp; omega
  by_cases h1 : n < l
  · rw [show goS s l p n = s from if_pos h1, show goL l p n = l - n from if_pos h1]
    by_cases h2 : n = 0
    · subst h2
      go_enter Try.func89, Try.ntmps89
      go_wp2
      first | go_end0 | refine bodyPost_ret (results_none rfl _ _ _) rfl ?_
      exact ⟨rfl, HA.out.of_eq (by rw [Int.sub_zero]), Upd.refl _ _⟩
    · have d2 : decide (n ≤ 0) = false := by simp; omega
      go_enter Try.func89, Try.ntmps89
      go_wp2
      first | go_end0 | refine bodyPost_ret (results_none rfl _ _ _) rfl ?_
      refine ⟨rfl, ?hA, ?hU⟩
      case hA =>
        (apply At.of_eq; (repeat (first | (with_reducible apply At.set) | (with_reducible apply At.drew) | (with_reducible apply At.drewN) | exact HA.out)); rfl)
      case hU =>
        (repeat (first | (with_reducible apply Upd.here) | (with_reducible apply Upd.drew) | (with_reducible apply Upd.drewN) | exact Upd.refl _ _))
  · have e1 : goS s l p n = jumpN s ((n - l) / p + 1) := if_neg h1
    have e2 : goL l p n = p - (n - l) % p := if_neg h1
    obtain ⟨q, r, hx, hr0, hr1, hd, hm⟩ := div_split (n - l) p hp.1
    have d2 : decide (n ≤ 0) = false := by simp; omega
    rw [e1, e2, hd, hm]
    have hq : 0 ≤ q := hd ▸ Int.ediv_nonneg (by omega) (by omega)
    have hq2 : q ≤ n - l := hd ▸ Int.ediv_le_self _ (by omega)
    have hd' : (n - l).tdiv p = q := by rw [Int.tdiv_eq_ediv_of_nonneg (by omega)]; exact hd
    have hm' : (n - l).tmod p = r := by rw [Int.tmod_eq_emod_of_nonneg (by omega)]; exact hm
    clear e1 e2 hx hd hm
    go_enter Try.func89, Try.ntmps89
    go_wp2_with fail
    have r0 := HA.out.regrown 0 rfl
    have r2 := HA.out.regrown 2 rfl
    refine region_below_tail 15 (by kernel_rfl) (by kernel_rfl) ?_
    simp only [List.take_succ_cons, List.take_zero, List.drop_succ_cons, List.drop_zero]
    repeat (go_big_quiet_step (((go_at_call 114; exact Calls.regrown_of (Jump_any s (q + 1) _ (by omega) (by omega))))))
    refine wpQuiet_nil ?_
    intro w1 hw'
    have hb : Below w.heap.size w w1 := below_of_regrown hw'
    clear hw'
    clear c0 c1 c2 f0 f1 r0 r2
    have hA1 := HA.out.below hb HA.out.lt
    have hU1 : Upd (· = b) w w1 := Upd.of_below hb
    have c0 := hA1.cell 0 rfl
    have c1 := hA1.cell 1 rfl
    have c2 := hA1.cell 2 rfl
    have f0 := hA1.frozen 0
    have HA1 := Lib.hid hA1
    have HU1 := Lib.hid hU1
    clear hA1 hU1 HA hb
    go_wp2_with fail
    have hA2 : At (w1.setCell ⟨b, 0, none⟩ (.int .u32 (jumpN s (q + 1) : Nat))) b 175 (nz (jumpN s (q + 1)) l p) := by
      (apply At.of_eq; (repeat (first | (with_reducible apply At.set) | (with_reducible apply At.drew) | (with_reducible apply At.drewN) | exact HA1.out)); rfl)
    have hU2 : Upd (· = b) w (w1.setCell ⟨b, 0, none⟩ (.int .u32 (jumpN s (q + 1) : Nat))) := by
      (repeat (first | (with_reducible apply Upd.here) | (with_reducible apply Upd.drew) | (with_reducible apply Upd.drewN) | exact HU1.out))
    clear c0 c1 c2 f0 HA1 HU1
    generalize w1.setCell ⟨b, 0, none⟩ (.int .u32 (jumpN s (q + 1) : Nat)) = w2 at *
    have c1 := hA2.cell 1 rfl
    have c2 := hA2.cell 2 rfl
    have f1 := hA2.frozen 1
    have HA2 := Lib.hid hA2
    have HU2 := Lib.hid hU2
    clear hA2 hU2
    refine region_drew_tail 14 (by kernel_rfl) (by kernel_rfl) ?_
    simp only [List.take_succ_cons, List.take_zero, List.drop_succ_cons, List.drop_zero]
    repeat (go_big_quiet_step ((fail)))
    refine wpQuiet_nil ?_
    intro _ hw'
    obtain ⟨nq, rfl⟩ := hw'
    go_wp2
    first | go_end0 | refine bodyPost_ret (results_none rfl _ _ _) rfl ?_
    refine ⟨rfl, ?hA, ?hU⟩
    case hA =>
      (apply At.of_eq; (repeat (first | (with_reducible apply At.set) | (with_reducible apply At.drew) | (with_reducible apply At.drewN) | exact HA2.out)); rfl)
    case hU =>
      (repeat (first | (with_reducible apply Upd.here) | (with_reducible apply Upd.drew) | (with_reducible apply Upd.drewN) | exact HU2.out))
end Go.Proofs.Ytgkbpdcedighcac
