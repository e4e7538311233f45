/-
  The walk of the law WavePlays.
-/
import Derived.Test.YtgkbpdcedighcacWaveL
import Derived.Test.YtgkbpdcedighcacWaveX
import Derived.Test.YtgkbpdcedighcacWaveC
import Derived.Test.YtgkbpdcedighcacRWaveC
namespace Go.Proofs.Ytgkbpdcedighcac
open Go.RowKit Go.Sort NoiseP

set_option maxRecDepth 100000 in
set_option maxHeartbeats 8000000 in
theorem WavePlays_walk (w : World) (a : Option Addr) (n cap : Nat) (F : Nat → List Value) (s : SlR w a n cap 5 IsStep14 F) (a' : Option Addr) (n' cap' : Nat) (F' : Nat → List Value) (s' : SlR w a' n' cap' 5 IsStep14 F') :
    Calls Try.prog 8 #[.slice a n cap, .slice a' n' cap'] w fun e w' => e = .returned (.bool true) ∧ Below w.heap.size w w' := by
  have hm := s.max
  have hle := s.le
  have hm' := s'.max
  have hle' := s'.le
  unfold maxLen at hm hm'
  have HS := Lib.hid (steps14 s)
  have HS' := Lib.hid (steps14 s')
  clear s s'
  by_cases hlong : 60 < n
  · have hd : decide (60 < (n : Int)) = true := by rw [decide_eq_true_eq]; omega
    go_enter Try.func8, Try.ntmps8
    go_wp2_with fail
    refine (live14_any w).mono ?_
    rintro e w1 ⟨rfl, hB1⟩
    go_wp2
    go_ret
    exact ⟨rfl, hB1⟩
  · have hd : decide (60 < (n : Int)) = false := by rw [decide_eq_false_iff_not]; omega
    by_cases hlong' : 60 < n'
    · have hd' : decide (60 < (n' : Int)) = true := by rw [decide_eq_true_eq]; omega
      go_enter Try.func8, Try.ntmps8
      go_wp2_with fail
      refine (live14_any w).mono ?_
      rintro e w1 ⟨rfl, hB1⟩
      go_wp2
      go_ret
      exact ⟨rfl, hB1⟩
    · have hd' : decide (60 < (n' : Int)) = false := by rw [decide_eq_false_iff_not]; omega
      go_enter Try.func8, Try.ntmps8
      go_wp2_with fail
      refine (live14_any w).mono ?_
      rintro e w1 ⟨rfl, hB1⟩
      have hS1 := HS.out.below hB1
      have hT1 := HS'.out.below hB1
      go_wp2_with fail
      refine (WNew_any w1).mono ?_
      rintro e w2 ⟨c, b, rfl, hb, hbc, hA2, hN2, hb2⟩
      have P2 : PC w2 c b CS.new := ⟨hA2, hN2⟩
      have hS2 := hS1.below hb2
      have hT2 := hT1.below hb2
      have hB2 := step_below hB1 hb2
      have hsz1 := hB1.size
      have hab : ∀ b' off, a = some ⟨b', off, none⟩ → 0 < n → b' < w1.heap.size := fun b' off h h0 => hS1.1.lt h0 h
      have hab' : ∀ b' off, a' = some ⟨b', off, none⟩ → 0 < n' → b' < w1.heap.size := fun b' off h h0 => hT1.1.lt h0 h
      clear hA2 hN2 hb2 hS1 hT1 HS HS' hB1
      go_wp2_with fail
      refine (QNew_any w2).mono ?_
      rintro e w3 ⟨d, g, rfl, hg, hgd, hA3, hN3, hb3⟩
      have P3 := P2.below hb3
      have hS3 := hS2.below hb3
      have hT3 := hT2.below hb3
      have hB3 := step_below hB2 hb3
      have hsz2 : w1.heap.size ≤ w2.heap.size := by have := P2.c.lt; omega
      have hI3 : WI w3 c b d g := ⟨CS.new, P3, ⟨hA3, hN3⟩, CS.new_ok⟩
      clear P2 P3 hA3 hN3 hb3 hS2 hT2 hB2
      go_wp2_with fail
      refine (play14_any c b d g a n cap F w3 hI3 hS3 (by omega) (by rintro b' off h h0 ((k | k) | (k | k)) <;> have := hab b' off h h0 <;> omega)).mono ?_
      rintro e w4 ⟨rfl, hI4, hU4⟩
      have hT4 := hT3.upd hU4 (by rintro b' off h h0 ((k | k) | (k | k)) <;> have := hab' b' off h h0 <;> omega)
      have hB4 := step_updS hB3 hU4 (by rintro k ((h | h) | (h | h)) <;> omega)
      obtain ⟨x, P4, R4, hok⟩ := hI4
      clear hI3 hS3 hT3 hB3 hU4 hab
      go_wp2_with fail
      refine (Clone_w c b x.fr x.be x.co x.ba x.to x.ny x.wv x.pl x.lf x.s x.l (perI x.f) w4 P4.c P4.b).mono ?_
      rintro e w5 ⟨c2, b2, rfl, hc2, hb2, hA5, hN5, hb5⟩
      have P5 := P4.below hb5
      have R5 := R4.below hb5
      have hT5 := hT4.below hb5
      have V5 : PC w5 c2 b2 x := ⟨hA5, hN5⟩
      have hB5 := step_below hB4 hb5
      have lc := P4.c.lt
      have lb := P4.b.lt
      have ld := R4.d.lt
      have lg := R4.g.lt
      have hsz4 := hB4.size
      have hsz5 := hb5.size
      clear hA5 hN5 hb5 hB4 P4 R4 hT4
      go_wp2_with fail
      refine (QCopy_S d g x w5 R5).mono ?_
      rintro e w6 ⟨d2, g2, rfl, hd2, hg2, V6, hb6⟩
      have P6 := P5.below hb6
      have R6 := R5.below hb6
      have hT6 := hT5.below hb6
      have U6 := V5.below hb6
      have HB6 := Lib.hid (step_below hB5 hb6)
      have hI6 : WI w6 c2 b2 d2 g2 := ⟨x, U6, V6, hok⟩
      have lc2 := V5.c.lt
      have lb2 := V5.b.lt
      have HP6 := Lib.hid P6
      have HR6 := Lib.hid R6
      clear P5 R5 hT5 V5 hB5 hb6 U6 V6 P6 R6
      go_wp2_with fail
      refine (play14_any c2 b2 d2 g2 a' n' cap' F' w6 hI6 hT6 (by omega) (by rintro b' off h h0 ((k | k) | (k | k)) <;> have := hab' b' off h h0 <;> omega)).mono ?_
      rintro e w7 ⟨rfl, -, hU7⟩
      have P7 := HP6.out.upd hU7 (by rintro ((k | k) | (k | k)) <;> omega) (by rintro ((k | k) | (k | k)) <;> omega)
      have R7 := HR6.out.upd hU7 (by rintro ((k | k) | (k | k)) <;> omega) (by rintro ((k | k) | (k | k)) <;> omega)
      have HB7 := Lib.hid (step_updS HB6.out hU7 (by rintro k ((h | h) | (h | h)) <;> omega))
      clear hU7 hI6 hT6 HP6 HR6 HB6
      go_wp2_with fail
      refine (alike_S c b d g x w7 P7 R7 hok).mono ?_
      rintro e w8 ⟨rfl, hb8⟩
      go_wp2
      go_ret
      exact ⟨rfl, step_below HB7.out hb8⟩
end Go.Proofs.Ytgkbpdcedighcac
