/-
  The walk of the law WaveParts.
-/
import Derived.Test.YtgkbpdcedighcacWaveL
import Derived.Test.YtgkbpdcedighcacWaveX
import Derived.Test.YtgkbpdcedighcacWaveC
namespace Go.Proofs.Ytgkbpdcedighcac
open Go.RowKit Go.Sort NoiseP

theorem goW_add (pl : Nat) (lf p a b : Int) (hp : 1 ≤ p) (hb : 0 ≤ b) :
    goPl (goPl pl lf p a) (goLf lf p a) p b = goPl pl lf p (a + b) ∧ goLf (goLf lf p a) p b = goLf lf p (a + b) := by
  by_cases h1 : a < lf
  · rw [show goPl pl lf p a = pl from if_pos h1, show goLf lf p a = lf - a from if_pos h1]
    unfold goPl goLf
    by_cases h2 : b < lf - a
    · rw [if_pos h2, if_pos h2, if_pos (by omega), if_pos (by omega)]
      exact ⟨rfl, by omega⟩
    · rw [if_neg h2, if_neg h2, if_neg (by omega), if_neg (by omega), show b - (lf - a) = a + b - lf by omega]
      exact ⟨rfl, rfl⟩
  · obtain ⟨m, hm⟩ : ∃ m, m = a - lf := ⟨_, rfl⟩
    have hm0 : 0 ≤ m := by omega
    have e1 : goPl pl lf p a = ((pl : Int) + 1 + m / p).toNat % 32 := by rw [goPl, if_neg h1, hm]
    have e2 : goLf lf p a = p - m % p := by rw [goLf, if_neg h1, hm]
    have e3 : goPl pl lf p (a + b) = ((pl : Int) + 1 + (m + b) / p).toNat % 32 := by rw [goPl, if_neg (by omega), show a + b - lf = m + b by omega]
    have e4 : goLf lf p (a + b) = p - (m + b) % p := by rw [goLf, if_neg (by omega), show a + b - lf = m + b by omega]
    rw [e1, e2, e3, e4]
    obtain ⟨q, hq⟩ : ∃ q, q = m / p := ⟨_, rfl⟩
    obtain ⟨r, hr⟩ : ∃ r, r = m % p := ⟨_, rfl⟩
    have hd := Int.mul_ediv_add_emod m p
    have hr0 := Int.emod_nonneg m (show p ≠ 0 by omega)
    have hr1 := Int.emod_lt_of_pos m (show 0 < p by omega)
    have hq0 : 0 ≤ q := hq ▸ Int.ediv_nonneg hm0 (by omega)
    rw [← hq, ← hr] at hd
    rw [← hr] at hr0 hr1
    rw [← hq, ← hr]
    by_cases h2 : b < p - r
    · have f1 : (m + b) / p = q := by
        rw [show m + b = (r + b) + p * q by omega, Int.add_mul_ediv_left _ _ (by omega), Int.ediv_eq_zero_of_lt (by omega) (by omega)]; omega
      have f2 : (m + b) % p = r + b := by
        rw [show m + b = (r + b) + p * q by omega, Int.add_mul_emod_self_left, Int.emod_eq_of_lt (by omega) (by omega)]
      rw [goPl, if_pos h2, goLf, if_pos h2, f1, f2]
      exact ⟨rfl, by omega⟩
    · obtain ⟨t, ht⟩ : ∃ t, t = b - (p - r) := ⟨_, rfl⟩
      have ht0 : 0 ≤ t := by omega
      have e5 : m + b = t + p * (q + 1) := by rw [Int.mul_add]; omega
      have f1 : (m + b) / p = t / p + (q + 1) := by rw [e5, Int.add_mul_ediv_left _ _ (by omega)]
      have f2 : (m + b) % p = t % p := by rw [e5, Int.add_mul_emod_self_left]
      have hu : 0 ≤ t / p := Int.ediv_nonneg ht0 (by omega)
      rw [goPl, if_neg h2, goLf, if_neg h2, f1, f2, ← ht]
      generalize t / p = u at *
      exact ⟨by omega, rfl⟩

theorem CS.go_add (x : CS) (a b : Int) (hb : 0 ≤ b) : (x.go a).go b = x.go (a + b) := by
  have hp := perI_pos x.f
  have h1 := goW_add x.pl x.lf (perW x.fr x.be) a b (perW_pos _ _).1 hb
  have h2 := NoiseP.go_add x.s x.l (perI x.f) a b hp.1 hb
  unfold CS.go
  simp only
  congr 1
  · unfold wgPl wgLf
    split
    · exact h1.1
    · rfl
  · unfold wgLf
    split
    · exact h1.2
    · rfl
  · unfold nsS nsL
    cases x.ny
    · rfl
    · exact h2.1
  · unfold nsL
    cases x.ny
    · rfl
    · exact h2.2

set_option maxRecDepth 100000 in
set_option maxHeartbeats 8000000 in
theorem WaveParts_walk (w : World) (a : Option Addr) (n cap : Nat) (F : Nat → List Value) (s : SlR w a n cap 5 IsStep14 F) (x0 : Int) (hx0 : (Lit.int .u32 x0).wf = true) (y0 : Int) (hy0 : (Lit.int .u32 y0).wf = true) :
    Calls Try.prog 9 #[.slice a n cap, .int .u32 x0, .int .u32 y0] w fun e w' => e = .returned (.bool true) ∧ Below w.heap.size w w' := by
  have hx := wf_bounds_u32 hx0
  have hy := wf_bounds_u32 hy0
  have hm := s.max
  have hle := s.le
  unfold maxLen at hm
  have HS := Lib.hid (steps14 s)
  clear s hx0 hy0
  by_cases hlong : 60 < n
  · have hd : decide (60 < (n : Int)) = true := by rw [decide_eq_true_eq]; omega
    go_enter Try.func9, Try.ntmps9
    go_wp2_with fail
    refine (live14_any w).mono ?_
    rintro e w1 ⟨rfl, hB1⟩
    go_wp2
    go_ret
    exact ⟨rfl, hB1⟩
  · have hd : decide (60 < (n : Int)) = false := by rw [decide_eq_false_iff_not]; omega
    go_enter Try.func9, Try.ntmps9
    go_wp2_with fail
    refine (live14_any w).mono ?_
    rintro e w1 ⟨rfl, hB1⟩
    have hS1 := HS.out.below hB1
    go_wp2_with fail
    refine (WNew_any w1).mono ?_
    rintro e w2 ⟨c, b, rfl, hb, hbc, hA2, hN2, hb2⟩
    have P2 : PC w2 c b CS.new := ⟨hA2, hN2⟩
    have hS2 := hS1.below hb2
    have hB2 := step_below hB1 hb2
    have hsz1 := hB1.size
    have hab : ∀ b' off, a = some ⟨b', off, none⟩ → 0 < n → b' < w1.heap.size := fun b' off h h0 => hS1.1.lt h0 h
    clear hA2 hN2 hb2 hS1 HS hB1
    go_wp2_with fail
    refine (QNew_any w2).mono ?_
    rintro e w3 ⟨d, g, rfl, hg, hgd, hA3, hN3, hb3⟩
    have P3 := P2.below hb3
    have hS3 := hS2.below hb3
    have hB3 := step_below hB2 hb3
    have hsz2 : w1.heap.size ≤ w2.heap.size := by have := P2.c.lt; omega
    have hI3 : WI w3 c b d g := ⟨CS.new, P3, ⟨hA3, hN3⟩, CS.new_ok⟩
    clear P2 P3 hA3 hN3 hb3 hS2 hB2
    go_wp2_with fail
    refine (play14_any c b d g a n cap F w3 hI3 hS3 (by omega) (by rintro b' off h h0 ((k | k) | (k | k)) <;> have := hab b' off h h0 <;> omega)).mono ?_
    rintro e w4 ⟨rfl, hI4, hU4⟩
    have hB4 := step_updS hB3 hU4 (by rintro k ((h | h) | (h | h)) <;> omega)
    obtain ⟨x, P4, -, hok⟩ := hI4
    clear hI3 hS3 hB3 hU4 hab
    go_wp2_with fail
    refine (Clone_w c b x.fr x.be x.co x.ba x.to x.ny x.wv x.pl x.lf x.s x.l (perI x.f) w4 P4.c P4.b).mono ?_
    rintro e w5 ⟨c2, b2, rfl, hc2, hb2, hA5, hN5, hb5⟩
    have P5 := P4.below hb5
    have R5 : PC w5 c2 b2 x := ⟨hA5, hN5⟩
    have hB5 := step_below hB4 hb5
    have lc := P4.c.lt
    have lb := P4.b.lt
    have hsz4 := hB4.size
    clear hA5 hN5 hb5 hB4 P4
    go_wp2_with fail
    refine (Go_S c b x (x0 + y0) w5 P5 hok (by omega)).mono ?_
    rintro e w6 ⟨rfl, P6, U6⟩
    have R6 := R5.upd U6 (by rintro (h | h) <;> omega) (by rintro (h | h) <;> omega)
    have hB6 := step_updS hB5 U6 (by rintro k (h | h) <;> omega)
    clear P5 R5 U6 hB5
    go_wp2_with fail
    refine (Go_S c2 b2 x x0 w6 R6 hok (by omega)).mono ?_
    rintro e w7 ⟨rfl, R7, U7⟩
    have P7 := P6.upd U7 (by rintro (h | h) <;> omega) (by rintro (h | h) <;> omega)
    have hB7 := step_updS hB6 U7 (by rintro k (h | h) <;> omega)
    have hok7 := CS.go_ok hok hx.1
    clear P6 R6 U7 hB6
    go_wp2_with fail
    refine (Go_S c2 b2 _ y0 w7 R7 hok7 (by omega)).mono ?_
    rintro e w8 ⟨rfl, R8, U8⟩
    rw [CS.go_add x x0 y0 hy.1] at R8
    have P8 := P7.upd U8 (by rintro (h | h) <;> omega) (by rintro (h | h) <;> omega)
    have HB8 := Lib.hid (step_updS hB7 U8 (by rintro k (h | h) <;> omega))
    have hok8 := CS.go_ok hok (n := x0 + y0) (by omega)
    clear P7 R7 U8 hB7 hok7 hok
    generalize x.go (x0 + y0) = y at *
    have HP := Lib.hid P8
    have HR := Lib.hid R8
    have HOK := Lib.hid hok8
    clear P8 R8 hok8
    go_wp2_with fail
    refine (Place_any c b y.fr y.be y.co y.ba y.to y.ny y.wv y.pl y.lf w8 HP.out.c).mono ?_
    rintro e _ ⟨rfl, rfl⟩
    go_wp2_with fail
    refine (Place_any c2 b2 y.fr y.be y.co y.ba y.to y.ny y.wv y.pl y.lf w8 HR.out.c).mono ?_
    rintro e _ ⟨rfl, rfl⟩
    go_wp2_with fail
    refine (Until_any c b y.fr y.be y.co y.ba y.to y.ny y.wv y.pl y.lf w8 HP.out.c).mono ?_
    rintro e _ ⟨rfl, rfl⟩
    go_wp2_with fail
    refine (Until_any c2 b2 y.fr y.be y.co y.ba y.to y.ny y.wv y.pl y.lf w8 HR.out.c).mono ?_
    rintro e _ ⟨rfl, rfl⟩
    have hs4 : y.s < 4294967296 := by have := HOK.out.s; omega
    go_wp2_with fail
    refine (Level_w c b y.fr y.be y.co y.ba y.to y.ny y.wv y.pl y.lf w8 y.s y.l (perI y.f) HP.out.c HP.out.b HOK.out.co hs4 HOK.out.pl).mono ?_
    rintro e _ ⟨rfl, m1, rfl⟩
    have HR9 := Lib.hid (HR.out.below (w' := w8.drewN m1) ⟨rfl, rfl, rfl, Nat.le_refl _, fun _ _ => rfl⟩)
    have HB9 : Hid (Below w.heap.size w (w8.drewN m1)) := Lib.hid ⟨HB8.out.os, HB8.out.tape, HB8.out.output, HB8.out.size, HB8.out.block⟩
    clear HP HR HB8
    generalize w8.drewN m1 = w9 at *
    go_wp2_with fail
    refine (Level_w c2 b2 y.fr y.be y.co y.ba y.to y.ny y.wv y.pl y.lf w9 y.s y.l (perI y.f) HR9.out.c HR9.out.b HOK.out.co hs4 HOK.out.pl).mono ?_
    rintro e _ ⟨rfl, m2, rfl⟩
    go_wp2
    go_ret
    exact ⟨rfl, HB9.out.os, HB9.out.tape, HB9.out.output, HB9.out.size, HB9.out.block⟩
end Go.Proofs.Ytgkbpdcedighcac
