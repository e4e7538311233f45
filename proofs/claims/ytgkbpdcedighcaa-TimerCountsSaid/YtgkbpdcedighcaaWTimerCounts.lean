/-
  The walk of the law TimerCounts.
-/
import Derived.Test.YtgkbpdcedighcaaTimerY
namespace Go.Proofs.Ytgkbpdcedighcaa
open Go.RowKit Go.Sort

theorem Steps09.lt {w : World} {a : Option Addr} {n : Nat} {x y z : Nat → Int} (h : Steps09 w a n x y z) (hn : 0 < n) {b off : Nat} (ha : a = some ⟨b, off, none⟩) : b < w.heap.size := by
  obtain ⟨_, _, _, b', off', h4, h5, _⟩ := h 0 hn
  rw [h4] at ha
  injection ha with ha
  injection ha with ha
  exact ha ▸ h5

set_option maxHeartbeats 2000000 in
theorem TimerCounts_walk (w : World) (a2 : Option Addr) (len2 cap2 : Nat) (F2 : Nat → List Value) (s2 : SlR w a2 len2 cap2 3 IsStep F2) (a3 : Option Addr) (len3 cap3 : Nat) (F3 : Nat → List Value) (s3 : SlR w a3 len3 cap3 3 IsStep F3) :
    Calls Try.prog 8 #[.slice a2 len2 cap2, .slice a3 len3 cap3] w fun e w' => e = .returned (.bool true) ∧ Below w.heap.size w w' := by
  have hm2 := s2.max
  have hle2 := s2.le
  have hm3 := s3.max
  have hle3 := s3.le
  unfold maxLen at hm2 hm3
  obtain ⟨x2, y2, z2, h2⟩ := steps09 s2
  obtain ⟨x3, y3, z3, h3⟩ := steps09 s3
  have H2 := Lib.hid h2
  have H3 := Lib.hid h3
  clear s2 s3 h2 h3
  cases hS2 : smallB len2 z2
  · have HS2 := Lib.hid hS2
    clear hS2
    go_enter Try.func8, Try.ntmps8
    go_wp2_with fail
    refine (live09_any _).mono ?_
    rintro e w0 ⟨rfl, hB0⟩
    go_wp2_with fail
    refine (small_any a2 len2 cap2 x2 y2 z2 w0 (H2.out.below hB0) (by omega)).mono ?_
    rintro e w' ⟨rfl, rfl⟩
    rw [HS2.out]
    go_wp2
    go_ret
    exact ⟨rfl, hB0⟩
  · have HS2 := Lib.hid hS2
    clear hS2
    cases hS3 : smallB len3 z3
    · have HS3 := Lib.hid hS3
      clear hS3
      go_enter Try.func8, Try.ntmps8
      go_wp2_with fail
      refine (live09_any _).mono ?_
      rintro e w0 ⟨rfl, hB0⟩
      go_wp2_with fail
      refine (small_any a2 len2 cap2 x2 y2 z2 w0 (H2.out.below hB0) (by omega)).mono ?_
      rintro e w' ⟨rfl, rfl⟩
      rw [HS2.out]
      go_wp2_with fail
      refine (small_any a3 len3 cap3 x3 y3 z3 w0 (H3.out.below hB0) (by omega)).mono ?_
      rintro e w' ⟨rfl, rfl⟩
      rw [HS3.out]
      go_wp2
      go_ret
      exact ⟨rfl, hB0⟩
    · have HS3 := Lib.hid hS3
      clear hS3
      go_enter Try.func8, Try.ntmps8
      go_wp2_with fail
      refine (live09_any _).mono ?_
      rintro e w0 ⟨rfl, hB0⟩
      go_wp2_with fail
      refine (small_any a2 len2 cap2 x2 y2 z2 w0 (H2.out.below hB0) (by omega)).mono ?_
      rintro e w' ⟨rfl, rfl⟩
      rw [HS2.out]
      go_wp2_with fail
      refine (small_any a3 len3 cap3 x3 y3 z3 w0 (H3.out.below hB0) (by omega)).mono ?_
      rintro e w' ⟨rfl, rfl⟩
      rw [HS3.out]
      go_wp2_with fail
      refine (New_any _).mono ?_
      rintro e w1 ⟨t, rfl, ht, hA1, hB1'⟩
      have hB1 := step_below hB0 hB1'
      have htw : w.heap.size ≤ t := Nat.le_trans hB0.size ht
      clear hB0 hB1' ht
      go_wp2_with fail
      refine (New2_any _).mono ?_
      rintro e w2 ⟨g, rfl, hg, hR2, hB2'⟩
      have hA2 := hA1.below hB2' hA1.lt
      have hB2 := step_below hB1 hB2'
      have hgw : w.heap.size ≤ g := Nat.le_trans hB1.size hg
      have hTI : TI w2 t g := ⟨0, 0, false, 3072, hA2, hR2, by decide, by decide, by decide, by decide, by decide, by decide⟩
      have HTI := Lib.hid hTI
      have HB2 := Lib.hid hB2
      clear hA1 hA2 hR2 hB1 hB2 hB2' hTI hg
      go_wp2_with fail
      have hab2 : ∀ b' off, a2 = some ⟨b', off, none⟩ → 0 < len2 → b' < w.heap.size := fun b' off h h0 => H2.out.lt h0 h
      have hab3 : ∀ b' off, a3 = some ⟨b', off, none⟩ → 0 < len3 → b' < w.heap.size := fun b' off h h0 => H3.out.lt h0 h
      have HAB2 := Lib.hid hab2
      have HAB3 := Lib.hid hab3
      clear hab2 hab3
      refine (play_any t g a2 len2 cap2 x2 y2 z2 w2 HTI.out (H2.out.below HB2.out) HS2.out ?hab).mono ?_
      case hab => exact fun b' off h h0 => by have := HAB2.out b' off h h0; omega
      rintro e w3 ⟨rfl, hTI3, hU3⟩
      have HB3 := Lib.hid (hU3.to HB2.out HB2.out.size fun k hk => by rcases hk with rfl | rfl <;> assumption)
      obtain ⟨r, c, on, left, hA3, hR3, bd⟩ := hTI3
      have HBD := Lib.hid bd
      clear bd hU3 HTI HB2
      go_wp2_with fail
      refine (Clone_any t _ _ _ _ w3 hA3).mono ?_
      rintro e w4 ⟨u, rfl, hu, hD4, hB4'⟩
      have hA4 := hA3.below hB4' hA3.lt
      have hR4 := hR3.below hB4' hR3.lt
      have htu : t < u := by have := hA3.lt; omega
      have hgu : g < u := by have := hR3.lt; omega
      have huw : w.heap.size ≤ u := Nat.le_trans HB3.out.size hu
      have HB4 := Lib.hid (step_below HB3.out hB4')
      clear hA3 hR3 HB3 hB4' hu
      go_wp2_with fail
      refine (Copy2_any g _ _ _ _ w4 hR4).mono ?_
      rintro e w5 ⟨v, rfl, hv, hE5, hB5'⟩
      have hA5 := hA4.below hB5' hA4.lt
      have hR5 := hR4.below hB5' hR4.lt
      have hD5 := hD4.below hB5' hD4.lt
      have htv : t < v := by have := hA4.lt; omega
      have hgv : g < v := by have := hR4.lt; omega
      have hvw : w.heap.size ≤ v := Nat.le_trans HB4.out.size hv
      have HB5 := Lib.hid (step_below HB4.out hB5')
      have HTI := Lib.hid (show TI w5 u v from ⟨r, c, on, left, hD5, hE5, HBD.out⟩)
      have HA5 := Lib.hid hA5
      have HR5 := Lib.hid hR5
      clear hA4 hR4 hD4 HB4 hB5' hv hD5 hE5 hA5 hR5
      go_wp2_with fail
      have hab5 : ∀ b' off, a3 = some ⟨b', off, none⟩ → 0 < len3 → b' ≠ u ∧ b' ≠ v := fun b' off h h0 => by have := HAB3.out b' off h h0; omega
      have HAB5 := Lib.hid hab5
      clear hab5
      go_region_with (first
        | (go_at_call 38; refine (play_any u v a3 len3 cap3 x3 y3 z3 w5.drew HTI.out (H3.out.below ⟨HB5.out.os, HB5.out.tape, HB5.out.output, HB5.out.size, HB5.out.block⟩) HS3.out HAB5.out).mono ?_; rintro e w6 ⟨rfl, hTI6, hU6⟩; have hA6 := (At.drew HA5.out).upd hU6 (by omega); have hR6 := (At.drew HR5.out).upd hU6 (by omega); have q1 := hR6.cell 1 rfl; have q3 := hR6.cell 3 rfl)
        | (go_at_call 41; refine (Cnt_any _ _ _ _ _ _ hA6).mono ?_; rintro e w' ⟨rfl, rfl⟩)
        | (go_at_call 42; refine (Left_any _ _ _ _ _ _ hA6).mono ?_; rintro e w' ⟨rfl, rfl⟩))
      all_goals
        have HB6 := Lib.hid (hU6.to (B := w.heap.size) (a := w) (w := w5.drew) ⟨HB5.out.os, HB5.out.tape, HB5.out.output, HB5.out.size, HB5.out.block⟩ HB5.out.size fun k hk => by rcases hk with rfl | rfl <;> assumption)
        go_wp2
        go_ret
        exact ⟨rfl, HB6.out⟩
end Go.Proofs.Ytgkbpdcedighcaa
