/-
  The walks of the reference's timer.
-/
import Derived.Test.YtgkbpdcedighcaaTimerL
import Derived.Test.YtgkbpdcedighcaaOpen
namespace Go.Proofs.Ytgkbpdcedighcaa
open Go.RowKit Go.Sort

theorem New2_any (w : World) : Calls Try.prog 37 #[] w fun e w' => Made w w' 61 (tk 0 0 false 3072) e := by
  go_enter Try.func37, Try.ntmps37
  go_wp2
  go_ret
  exact made_new _ _ _ rfl
theorem Copy2_any (b : Nat) (r c : Int) (on : Bool) (left : Int) (w : World) (hA : At w b 61 (tk r c on left)) :
    Calls Try.prog 40 #[.pointer (some ⟨b, 0, none⟩)] w fun e w' => Made w w' 61 (tk r c on left) e := by
  have c0 := hA.cell 0 rfl
  have c1 := hA.cell 1 rfl
  have c2 := hA.cell 2 rfl
  have c3 := hA.cell 3 rfl
  go_enter Try.func40, Try.ntmps40
  go_wp2_with fail
  refine region_drew_tail 17 (by kernel_rfl) (by kernel_rfl) ?_
  simp only [List.take_succ_cons, List.take_zero, List.drop_succ_cons, List.drop_zero]
  repeat (go_big_quiet_step ((fail)))
  refine wpQuiet_nil ?_
  intro _ hw'
  obtain ⟨nq, rfl⟩ := hw'
  go_wp2
  go_ret
  refine ⟨w.heap.size, rfl, Nat.le_refl _, At.new (w.drewN nq) _ _, ?_⟩
  exact ((Upd.drewN (Upd.refl (fun _ => False) w) nq).to_below (fun b hb => ⟨hb, id⟩)).alloc (by simp) _

theorem Write02_any (b : Nat) (r c : Int) (on : Bool) (left x : Int) (w : World) (hA : At w b 61 (tk r c on left)) (h0 : 0 ≤ x) :
    Calls Try.prog 68 #[.pointer (some ⟨b, 0, none⟩), .int .i64 0, .int .u8 x] w fun e w' => e = .returned (.tuple #[]) ∧ At w' b 61 (tk (x % 128) c on left) ∧ Upd (· = b) w w' := by
  have c0 := hA.cell 0 rfl
  have f0 := hA.frozen 0
  go_enter Try.func68, Try.ntmps68
  go_wp2
  first | go_end0 | refine bodyPost_ret (results_none rfl _ _ _) rfl ?_
  refine ⟨rfl, ?hA, ?hU⟩
  case hA =>
    (apply At.of_eq; (repeat (first | (with_reducible apply At.set) | (with_reducible apply At.drew) | (with_reducible apply At.drewN) | exact hA)); rfl)
  case hU =>
    (repeat (first | (with_reducible apply Upd.here) | (with_reducible apply Upd.drew) | (with_reducible apply Upd.drewN) | exact Upd.refl _ _))
set_option maxHeartbeats 1000000 in
theorem Write12_any (b : Nat) (r c : Int) (on : Bool) (left x : Int) (w : World) (hA : At w b 61 (tk r c on left)) (h0 : 0 ≤ x) :
    Calls Try.prog 68 #[.pointer (some ⟨b, 0, none⟩), .int .i64 1, .int .u8 x] w fun e w' => e = .returned (.tuple #[]) ∧
      At w' b 61 (tk r (if decide (x % 2 = 1) && !on then r else c) (decide (x % 2 = 1)) (if decide (x % 2 = 1) && !on then 3072 else left)) ∧ Upd (· = b) w w' := by
  have c0 := hA.cell 0 rfl
  have c1 := hA.cell 1 rfl
  have c2 := hA.cell 2 rfl
  have c3 := hA.cell 3 rfl
  have f1 := hA.frozen 1
  have f2 := hA.frozen 2
  have f3 := hA.frozen 3
  rcases (by omega : x % 2 = 0 ∨ x % 2 = 1) with e2 | e2
  · rw [show decide (x % 2 = 1) = false by simp; omega]
    go_enter Try.func68, Try.ntmps68
    go_wp2
    first | go_end0 | refine bodyPost_ret (results_none rfl _ _ _) rfl ?_
    refine ⟨rfl, ?hA, ?hU⟩
    case hA =>
      (apply At.of_eq; (repeat (first | (with_reducible apply At.set) | (with_reducible apply At.drew) | (with_reducible apply At.drewN) | exact hA)); rfl)
    case hU =>
      (repeat (first | (with_reducible apply Upd.here) | (with_reducible apply Upd.drew) | (with_reducible apply Upd.drewN) | exact Upd.refl _ _))
  · rw [show decide (x % 2 = 1) = true by simp; omega]
    cases on
    all_goals
      go_enter Try.func68, Try.ntmps68
      go_wp2
      first | go_end0 | refine bodyPost_ret (results_none rfl _ _ _) rfl ?_
      refine ⟨rfl, ?hA, ?hU⟩
      case hA =>
        (apply At.of_eq; (repeat (first | (with_reducible apply At.set) | (with_reducible apply At.drew) | (with_reducible apply At.drewN) | exact hA)); rfl)
      case hU =>
        (repeat (first | (with_reducible apply Upd.here) | (with_reducible apply Upd.drew) | (with_reducible apply Upd.drewN) | exact Upd.refl _ _))
theorem WriteN2_any (b : Nat) (x reg : Int) (w : World) (h0 : reg ≠ 0) (h1 : reg ≠ 1) :
    Calls Try.prog 68 #[.pointer (some ⟨b, 0, none⟩), .int .i64 reg, .int .u8 x] w fun e w' => e = .returned (.tuple #[]) ∧ w = w' := by
  have g0 : (reg == 0) = false := by simp [h0]
  have g1 : (reg == 1) = false := by simp [h1]
  go_enter Try.func68, Try.ntmps68
  go_wp2
  first | go_end0 | refine bodyPost_ret (results_none rfl _ _ _) rfl ?_
  exact ⟨rfl, rfl⟩

theorem tick2_zero (b : Nat) (r : Int) (on : Bool) (left : Int) (w : World) (hA : At w b 61 (tk r 0 on left)) :
    Calls Try.prog 79 #[.pointer (some ⟨b, 0, none⟩)] w fun e w' => e = .returned (.bool true) ∧ At w' b 61 (tk r r on left) ∧ Upd (· = b) w w' := by
  have c0 := hA.cell 0 rfl
  have c1 := hA.cell 1 rfl
  have f1 := hA.frozen 1
  go_enter Try.func79, Try.ntmps79
  go_wp2
  go_ret
  refine ⟨rfl, ?hA, ?hU⟩
  case hA =>
    (apply At.of_eq; (repeat (first | (with_reducible apply At.set) | (with_reducible apply At.drew) | (with_reducible apply At.drewN) | exact hA)); rfl)
  case hU =>
    (repeat (first | (with_reducible apply Upd.here) | (with_reducible apply Upd.drew) | (with_reducible apply Upd.drewN) | exact Upd.refl _ _))
theorem tick2_more (b : Nat) (r c : Int) (on : Bool) (left : Int) (w : World) (hA : At w b 61 (tk r c on left)) (h0 : 1 ≤ c) (h1 : c ≤ 255) :
    Calls Try.prog 79 #[.pointer (some ⟨b, 0, none⟩)] w fun e w' => e = .returned (.bool false) ∧ At w' b 61 (tk r (c - 1) on left) ∧ Upd (· = b) w w' := by
  have c1 := hA.cell 1 rfl
  have f1 := hA.frozen 1
  have hne : (c == 0) = false := by simp; omega
  go_enter Try.func79, Try.ntmps79
  go_wp2
  go_ret
  refine ⟨rfl, ?hA, ?hU⟩
  case hA =>
    (apply At.of_eq; (repeat (first | (with_reducible apply At.set) | (with_reducible apply At.drew) | (with_reducible apply At.drewN) | exact hA)); rfl)
  case hU =>
    (repeat (first | (with_reducible apply Upd.here) | (with_reducible apply Upd.drew) | (with_reducible apply Upd.drewN) | exact Upd.refl _ _))

theorem Go2_off (b : Nat) (r c left n : Int) (w : World) (hA : At w b 61 (tk r c false left)) :
    Calls Try.prog 69 #[.pointer (some ⟨b, 0, none⟩), .int .i64 n] w fun e w' => e = .returned (.int .i64 0) ∧ w = w' := by
  have c2 := hA.cell 2 rfl
  go_enter Try.func69, Try.ntmps69
  go_wp2
  go_ret
  exact ⟨rfl, rfl⟩

/-- What Go has to come to, from here. -/
def Tgt (r c l n over C L O : Int) : Prop := eC r c l n = C ∧ eL l n = L ∧ over + eO r c l n = O

set_option maxHeartbeats 2000000 in
theorem Go2_any (b : Nat) (r c left n : Int) (w : World) (hA : At w b 61 (tk r c true left)) (r0 : 0 ≤ r) (r1 : r ≤ 127) (c0 : 0 ≤ c) (c1 : c ≤ 127) (l0 : 1 ≤ left) (l1 : left ≤ 3072) (n0 : -9223372036854775808 ≤ n) (n1 : n ≤ 1000000000000) :
    Calls Try.prog 69 #[.pointer (some ⟨b, 0, none⟩), .int .i64 n] w fun e w' => e = .returned (.int .i64 (eO r c left n)) ∧ At w' b 61 (tk r (eC r c left n) true (eL left n)) ∧ Upd (· = b) w w' := by
  have d2 := hA.cell 2 rfl
  obtain ⟨C, L, O, hT⟩ : ∃ C L O, Tgt r c left n 0 C L O := ⟨_, _, _, rfl, rfl, rfl⟩
  have hT1 := hT.1
  have hT2 := hT.2.1
  have hT3 : eO r c left n = O := by have := hT.2.2; omega
  rw [hT1, hT2, hT3]
  have HT := Lib.hid hT
  have hO : O ≤ 1000000000000 ∧ 0 ≤ O := by have := eO_bd r c left n r0 c0 l0; omega
  clear hT hT1 hT2 hT3
  have HA := Lib.hid hA
  clear hA
  go_enter Try.func69, Try.ntmps69
  go_wp2_with fail
  clear d2
  go_loopw [1, 5] (fun x y wr => ∃ m o : Int, x = .int .i64 m ∧ y = .int .i64 o ∧ -9223372036854775808 ≤ m ∧ m ≤ 1000000000000 ∧ 0 ≤ o ∧ Hid (∃ c' l', 0 ≤ c' ∧ c' ≤ 127 ∧ 1 ≤ l' ∧ l' ≤ 3072 ∧ At wr b 61 (tk r c' true l') ∧ Tgt r c' l' m o C L O) ∧ Hid (Upd (· = b) w wr)) (fun x _ _ => (intOf x).toNat)
  case atStart => exact ⟨n, 0, rfl, rfl, n0, n1, by omega, Lib.hid ⟨c, left, c0, c1, l0, l1, HA.out, HT.out⟩, Lib.hid (Upd.refl _ _)⟩
  case round =>
    obtain ⟨m, o, rfl, rfl, m0, m1, o0, HC, HU⟩ := hrel
    obtain ⟨c', l', p0, p1, q0, q1, hA, hT⟩ := HC.out
    have ho : o ≤ 1000000000000 := by have := hT.2.2; have := eO_bd r c' l' m r0 p0 q0; omega
    have d3 := hA.cell 3 rfl
    have f3 := hA.frozen 3
    have HT' := Lib.hid hT
    have HA' := Lib.hid hA
    clear hT hA HC
    by_cases hlt : l' ≤ m
    · by_cases hc : c' = 0
      · subst hc
        go_wp2_with fail
        refine (tick2_zero b r true 3072 _ ((HA'.out.set 3 _).of_eq rfl)).mono ?_
        rintro e w2 ⟨rfl, hA2, hU2⟩
        have HA2 := Lib.hid hA2
        have HU2 := Lib.hid ((HU.out.here (i := 3) (.int .i64 3072)).trans hU2 fun _ _ h => h)
        clear hA2 hU2 d3 f3
        go_wp2
        go_roundw
        case rel => exact ⟨m - l', o + 1, rfl, rfl, by omega, by omega, by omega, Lib.hid ⟨r, 3072, r0, r1, by decide, by decide, HA2.out, by
          have h := step_tick r 0 l' m r0 r1 (by decide) (by decide) q0 q1 hlt
          have t := HT'.out
          simp only [if_true] at h
          exact ⟨h.2.1.symm.trans t.1, h.2.2.symm.trans t.2.1, by have := t.2.2; omega⟩⟩, HU2⟩
        case measure => simp [intOf]; omega
      · go_wp2_with fail
        refine (tick2_more b r c' true 3072 _ ((HA'.out.set 3 _).of_eq rfl) (by omega) (by omega)).mono ?_
        rintro e w2 ⟨rfl, hA2, hU2⟩
        have HA2 := Lib.hid hA2
        have HU2 := Lib.hid ((HU.out.here (i := 3) (.int .i64 3072)).trans hU2 fun _ _ h => h)
        clear hA2 hU2 d3 f3
        go_wp2
        go_roundw
        case rel => exact ⟨m - l', o, rfl, rfl, by omega, by omega, by omega, Lib.hid ⟨c' - 1, 3072, by omega, by omega, by decide, by decide, HA2.out, by
          have h := step_tick r c' l' m r0 r1 p0 p1 q0 q1 hlt
          have t := HT'.out
          simp only [if_neg hc] at h
          exact ⟨h.2.1.symm.trans t.1, h.2.2.symm.trans t.2.1, by have := t.2.2; omega⟩⟩, HU2⟩
        case measure => simp [intOf]; omega
    · have t := HT'.out
      unfold Tgt eC eL eO gC gL gO at t
      by_cases hm : m ≤ 0
      · rw [if_pos hm, if_pos hm, if_pos hm] at t
        obtain ⟨rfl, rfl, t3⟩ := t
        obtain rfl : o = O := by omega
        clear t3 HT HT'
        go_wp2
        go_ret
        exact ⟨rfl, HA'.out, HU.out⟩
      · rw [if_neg hm, if_neg hm, if_neg hm, if_pos (by omega), if_pos (by omega), if_pos (by omega)] at t
        obtain ⟨rfl, rfl, t3⟩ := t
        obtain rfl : o = O := by omega
        clear t3 HT HT'
        have hpos : 0 < m := by omega
        go_wp2
        go_ret
        refine ⟨rfl, ?hA, ?hU⟩
        case hA =>
          (apply At.of_eq; (repeat (first | (with_reducible apply At.set) | (with_reducible apply At.drew) | (with_reducible apply At.drewN) | exact HA'.out)); rfl)
        case hU =>
          (repeat (first | (with_reducible apply Upd.here) | (with_reducible apply Upd.drew) | (with_reducible apply Upd.drewN) | exact HU.out))
end Go.Proofs.Ytgkbpdcedighcaa
