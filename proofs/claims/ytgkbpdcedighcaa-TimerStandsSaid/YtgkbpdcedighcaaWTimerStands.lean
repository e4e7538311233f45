/-
  The walk of the law TimerStands.
-/
import Derived.Test.YtgkbpdcedighcaaTimerY
namespace Go.Proofs.Ytgkbpdcedighcaa
open Go.RowKit Go.Sort

theorem Steps09.lt {w : World} {a : Option Addr} {n : Nat} {x y z : Nat → Int} (h : Steps09 w a n x y z) (hn : 0 < n) {b off : Nat} (ha : a = some ⟨b, off, none⟩) : b < w.heap.size := by
  obtain ⟨_, _, _, b', off', h4, h5, _⟩ := h 0 hn
  rw [h4] at ha
  injection ha with ha
  injection ha with ha
  exact ha ▸ h5

set_option maxHeartbeats 2000000 in
theorem TimerStands_walk (w : World) (a2 : Option Addr) (len2 cap2 : Nat) (F2 : Nat → List Value) (s2 : SlR w a2 len2 cap2 3 IsStep F2) (n : Int) (_ : (Lit.int .i64 n).wf = true) :
    Calls Try.prog 11 #[.slice a2 len2 cap2, .int .i64 n] w fun e w' => e = .returned (.bool true) ∧ Below w.heap.size w w' := by
  have hm2 := s2.max
  have hle2 := s2.le
  unfold maxLen at hm2
  obtain ⟨x2, y2, z2, h2⟩ := steps09 s2
  have H2 := Lib.hid h2
  clear s2 h2
  cases hS2 : smallB len2 z2
  · have HS2 := Lib.hid hS2
    clear hS2
    go_enter Try.func11, Try.ntmps11
    go_wp2_with fail
    refine (live09_any _).mono ?_
    rintro e w0 ⟨rfl, hB0⟩
    go_wp2_with fail
    refine (small_any a2 len2 cap2 x2 y2 z2 w0 (H2.out.below hB0) (by omega)).mono ?_
    rintro e w' ⟨rfl, rfl⟩
    rw [HS2.out]
    go_wp2
    go_ret
    exact ⟨rfl, hB0⟩
  · have HS2 := Lib.hid hS2
    clear hS2
    go_enter Try.func11, Try.ntmps11
    go_wp2_with fail
    refine (live09_any _).mono ?_
    rintro e w0 ⟨rfl, hB0⟩
    go_wp2_with fail
    refine (small_any a2 len2 cap2 x2 y2 z2 w0 (H2.out.below hB0) (by omega)).mono ?_
    rintro e w' ⟨rfl, rfl⟩
    rw [HS2.out]
    go_wp2_with fail
    refine (New_any _).mono ?_
    rintro e w1 ⟨t, rfl, ht, hA1, hB1'⟩
    have hB1 := step_below hB0 hB1'
    have htw : w.heap.size ≤ t := Nat.le_trans hB0.size ht
    clear hB0 hB1' ht
    go_wp2_with fail
    refine (New2_any _).mono ?_
    rintro e w2 ⟨g, rfl, hg, hR2, hB2'⟩
    have hA2 := hA1.below hB2' hA1.lt
    have hB2 := step_below hB1 hB2'
    have hgw : w.heap.size ≤ g := Nat.le_trans hB1.size hg
    have hTI : TI w2 t g := ⟨0, 0, false, 3072, hA2, hR2, by decide, by decide, by decide, by decide, by decide, by decide⟩
    have HTI := Lib.hid hTI
    have HB2 := Lib.hid hB2
    have hab2 : ∀ b' off, a2 = some ⟨b', off, none⟩ → 0 < len2 → b' ≠ t ∧ b' ≠ g := fun b' off h h0 => by have := H2.out.lt h0 h; omega
    have HAB2 := Lib.hid hab2
    clear hA1 hA2 hR2 hB1 hB2 hB2' hTI hg hab2
    go_wp2_with fail
    refine (play_any t g a2 len2 cap2 x2 y2 z2 w2 HTI.out (H2.out.below HB2.out) HS2.out HAB2.out).mono ?_
    rintro e w3 ⟨rfl, hTI3, hU3⟩
    have hB3 := hU3.to HB2.out HB2.out.size fun k hk => by rcases hk with rfl | rfl <;> assumption
    obtain ⟨r, c, on, left, hA3, hR3, r0, r1, c0, c1, l0, l1⟩ := hTI3
    clear hU3 HTI HB2 hR3
    go_wp2_with fail
    refine (Write1_any t _ _ _ _ 0 w3 hA3 (by omega) (by decide) (by decide)).mono ?_
    rintro e w4 ⟨rfl, hA4', hU4⟩
    have hA4 : At w4 t 115 (tk r c false left) := hA4'
    have hB4 := step_upd hB3 hU4 htw
    clear hA3 hB3 hU4 hA4'
    have l0' : 0 < left := by omega
    go_wp2_with (first
      | (go_at_call 41; refine (Cnt_any _ _ _ _ _ _ hA4).mono ?_; rintro e w' ⟨rfl, rfl⟩)
      | (go_at_call 42; refine (Left_any _ _ _ _ _ _ hA4).mono ?_; rintro e w' ⟨rfl, rfl⟩)
      | (go_at_call 46; refine (On_any _ _ _ _ _ _ hA4).mono ?_; rintro e w' ⟨rfl, rfl⟩)
      | (go_at_call 44; refine (Go_off _ _ _ _ _ _ _ hA4 l0' (.inl rfl)).mono ?_; rintro e w' ⟨rfl, rfl⟩)
      | (go_at_call 45; refine (Until_off _ _ _ _ _ hA4).mono ?_; rintro e w' ⟨rfl, rfl⟩))
    go_ret
    exact ⟨rfl, hB4⟩
end Go.Proofs.Ytgkbpdcedighcaa
