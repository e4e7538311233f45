/-
  The walks of the adder's decimal side.
-/
import Derived.Test.YtgkbpdcedighcabByte
import Derived.WalkMore
import Derived.ScopeJumps
namespace Go.Proofs.Ytgkbpdcedighcab
open Go.RowKit Go.Sort

/-- A scope of which the run jumps ahead, to one label, once. -/
theorem wp_scope_fwd {P : Program} {a : Act} {w : World} {Q : Exit → Act → World → Prop} {c rest : Code} (l : Nat) (hf : findLabel c l = some rest)
    (first : c.wp P (Exit.jump l (fun a' w' => rest.wp P (Exit.noGoto Q) a' w') Q) a w) : (Code.scope c).wp P Q a w := by
  refine wp_scope_jumps l _ (fun _ _ => 0) hf first fun a' w' hJ => ?_
  intro b k cs
  obtain ⟨e, a1, w1, hq, harr⟩ := hJ b k cs
  refine ⟨e, a1, w1, ?_, harr⟩
  cases e <;> first | exact hq | exact hq.elim

theorem i64_and15 (n : Nat) (hn : n < 32) : bits .and .i64 (n : Int) 15 = ((n % 16 : Nat) : Int) := by
  have : ∀ n : Fin 32, bits .and .i64 ((n.val : Nat) : Int) 15 = ((n.val % 16 : Nat) : Int) := by decide +kernel
  exact this ⟨n, hn⟩
theorem i64_or16 (a b : Nat) (ha : a < 16) (hb : b < 16) : bits .or .i64 ((a : Int) * 16) (b : Int) = (a : Int) * 16 + (b : Int) := by
  have : ∀ a b : Fin 16, bits .or .i64 (((a.val : Nat) : Int) * 16) ((b.val : Nat) : Int) = ((a.val : Nat) : Int) * 16 + ((b.val : Nat) : Int) := by decide +kernel
  exact this ⟨a, ha⟩ ⟨b, hb⟩
theorem u8_and15 (a b : Nat) (ha : a < 16) (hb : b < 16) : bits .and .u8 ((a : Int) * 16 + (b : Int)) 15 = (b : Int) := by
  have : ∀ a b : Fin 16, bits .and .u8 (((a.val : Nat) : Int) * 16 + ((b.val : Nat) : Int)) 15 = ((b.val : Nat) : Int) := by decide +kernel
  exact this ⟨a, ha⟩ ⟨b, hb⟩

set_option maxRecDepth 100000 in
theorem more_any (a b c : Nat) (w : World) (ha : a ≤ 9) (hb : b ≤ 9) (hc : c ≤ 1) :
    Calls Try.prog 64 #[.int .i64 (a : Int), .int .i64 (b : Int), .int .i64 (c : Int)] w fun e w' => e = .returned (.tuple #[.int .i64 ((a + b + c) % 10 : Nat), .int .i64 ((a + b + c) / 10 : Nat)]) ∧ w = w' := by
  obtain ⟨n, hn⟩ : ∃ n, n = a + b + c := ⟨_, rfl⟩
  have e1 : (a : Int) + (b : Int) + (c : Int) = (n : Int) := by omega
  have hn2 : n ≤ 19 := by omega
  rw [← hn]
  clear hn
  by_cases hlt : n < 10
  · have hx : n % 10 = n := by omega
    have hy : n / 10 = 0 := by omega
    have e2 := i64_and15 n (by omega)
    rw [show n % 16 = n by omega] at e2
    have e3 : (n : Int) / 16 = 0 := by omega
    rw [hx, hy]
    clear hx hy
    go_enter Try.func64, Try.ntmps64
    go_wp2
    refine wp_scope_fwd 0 rfl ?_
    go_wp2
    go_step3
    refine ⟨rfl, ?_⟩
    go_wp2
    simp only [Exit.noGoto]
    go_ret2
    exact ⟨rfl, rfl⟩
  · obtain ⟨d, hd⟩ : ∃ d, d = n % 10 := ⟨_, rfl⟩
    have hy : n / 10 = 1 := by omega
    have e2 := i64_and15 (n + 6) (by omega)
    rw [show (n + 6) % 16 = d by omega, Int.natCast_add] at e2
    replace e2 : bits .and .i64 ((n : Int) + 6) 15 = (d : Int) := e2
    have e3 : ((n : Int) + 6) / 16 = 1 := by omega
    rw [← hd, hy]
    clear hd hy
    go_enter Try.func64, Try.ntmps64
    go_wp2
    go_step3
    go_wp2
    go_step3
    go_wp2
    simp only [Exit.noGoto]
    go_ret2
    exact ⟨rfl, rfl⟩

set_option maxRecDepth 100000 in
theorem less_any (a b c : Nat) (w : World) (ha : a ≤ 9) (hb : b ≤ 9) (hc : c ≤ 1) :
    Calls Try.prog 75 #[.int .i64 (a : Int), .int .i64 (b : Int), .int .i64 (c : Int)] w fun e w' => e = .returned (.tuple #[.int .i64 ((a + 10 - b - c) % 10 : Nat), .int .i64 (1 - (a + 10 - b - c) / 10 : Nat)]) ∧ w = w' := by
  obtain ⟨n, hn⟩ : ∃ n, n = a + 10 - b - c := ⟨_, rfl⟩
  rw [← hn]
  have hn2 : n ≤ 19 := by omega
  by_cases hlt : 10 ≤ n
  · obtain ⟨d, hd⟩ : ∃ d, d = n % 10 := ⟨_, rfl⟩
    have hy : 1 - n / 10 = 0 := by omega
    have e1 : (a : Int) - (b : Int) - (c : Int) = (d : Int) := by omega
    have e2 := i64_and15 d (by omega)
    rw [show d % 16 = d by omega] at e2
    rw [← hd, hy]
    have hd9 : d ≤ 9 := by omega
    clear hd hy hn hlt hn2
    go_enter Try.func75, Try.ntmps75
    go_wp2
    refine wp_scope_fwd 0 rfl ?_
    go_wp2
    go_step3
    refine ⟨rfl, ?_⟩
    go_wp2
    simp only [Exit.noGoto]
    go_ret2
    exact ⟨rfl, rfl⟩
  · have hx : n % 10 = n := by omega
    have hy : 1 - n / 10 = 1 := by omega
    have e1 : (a : Int) - (b : Int) - (c : Int) = (n : Int) - 10 := by omega
    have e2 := i64_and15 n (by omega)
    rw [show n % 16 = n by omega] at e2
    rw [hx, hy]
    have hlt2 : n ≤ 9 := by omega
    clear hx hy hn hlt hn2
    go_enter Try.func75, Try.ntmps75
    go_wp2
    go_step3
    go_wp2
    go_step3
    go_wp2
    simp only [Exit.noGoto]
    go_ret2
    exact ⟨rfl, rfl⟩

set_option maxRecDepth 100000 in
theorem both_more (ah al bh bl c : Nat) (w : World) (h1 : ah ≤ 9) (h2 : al ≤ 9) (h3 : bh ≤ 9) (h4 : bl ≤ 9) (hc : c ≤ 1) :
    Calls Try.prog 62 #[.int .u8 ((ah : Int) * 16 + (al : Int)), .int .u8 ((bh : Int) * 16 + (bl : Int)), .int .i64 (c : Int), .func (.func 64) #[] #[]] w
      fun e w' => e = .returned (.tuple #[.int .u8 ((((ah + bh + (al + bl + c) / 10) % 10 : Nat) : Int) * 16 + (((al + bl + c) % 10 : Nat) : Int)), .int .i64 ((ah + bh + (al + bl + c) / 10) / 10 : Nat)]) ∧ w = w' := by
  have a1 := u8_and15 ah al (by omega) (by omega)
  have a2 := u8_and15 bh bl (by omega) (by omega)
  have a3 : ((ah : Int) * 16 + (al : Int)) / 16 = (ah : Int) := by omega
  have a4 : ((bh : Int) * 16 + (bl : Int)) / 16 = (bh : Int) := by omega
  go_enter Try.func62, Try.ntmps62
  go_wp2_with fail
  refine (more_any al bl c w h2 h4 hc).mono ?_
  rintro e _ ⟨rfl, rfl⟩
  obtain ⟨on, hon⟩ : ∃ on, on = (al + bl + c) / 10 := ⟨_, rfl⟩
  obtain ⟨lo, hlo⟩ : ∃ lo, lo = (al + bl + c) % 10 := ⟨_, rfl⟩
  have hon1 : on ≤ 1 := by omega
  have hlo1 : lo ≤ 9 := by omega
  rw [← hon, ← hlo]
  have HON := Lib.hid hon
  have HLO := Lib.hid hlo
  clear hon hlo
  go_wp2_with fail
  refine (more_any ah bh on w h1 h3 hon1).mono ?_
  rintro e _ ⟨rfl, rfl⟩
  obtain ⟨hi, hhi⟩ : ∃ hi, hi = (ah + bh + on) % 10 := ⟨_, rfl⟩
  obtain ⟨out, hout⟩ : ∃ out, out = (ah + bh + on) / 10 := ⟨_, rfl⟩
  have hhi1 : hi ≤ 9 := by omega
  rw [← hhi, ← hout]
  have a5 := i64_or16 hi lo (by omega) (by omega)
  have HHI := Lib.hid hhi
  have HOUT := Lib.hid hout
  clear hhi hout
  go_wp2
  go_ret2
  exact ⟨by rw [← HON.out, ← HLO.out, ← HHI.out, ← HOUT.out]; rfl, rfl⟩

set_option maxRecDepth 100000 in
theorem both_less (ah al bh bl c : Nat) (w : World) (h1 : ah ≤ 9) (h2 : al ≤ 9) (h3 : bh ≤ 9) (h4 : bl ≤ 9) (hc : c ≤ 1) :
    Calls Try.prog 62 #[.int .u8 ((ah : Int) * 16 + (al : Int)), .int .u8 ((bh : Int) * 16 + (bl : Int)), .int .i64 (c : Int), .func (.func 75) #[] #[]] w
      fun e w' => e = .returned (.tuple #[.int .u8 ((((ah + 10 - bh - (1 - (al + 10 - bl - c) / 10)) % 10 : Nat) : Int) * 16 + (((al + 10 - bl - c) % 10 : Nat) : Int)), .int .i64 (1 - (ah + 10 - bh - (1 - (al + 10 - bl - c) / 10)) / 10 : Nat)]) ∧ w = w' := by
  have a1 := u8_and15 ah al (by omega) (by omega)
  have a2 := u8_and15 bh bl (by omega) (by omega)
  have a3 : ((ah : Int) * 16 + (al : Int)) / 16 = (ah : Int) := by omega
  have a4 : ((bh : Int) * 16 + (bl : Int)) / 16 = (bh : Int) := by omega
  go_enter Try.func62, Try.ntmps62
  go_wp2_with fail
  refine (less_any al bl c w h2 h4 hc).mono ?_
  rintro e _ ⟨rfl, rfl⟩
  obtain ⟨on, hon⟩ : ∃ on, on = 1 - (al + 10 - bl - c) / 10 := ⟨_, rfl⟩
  obtain ⟨lo, hlo⟩ : ∃ lo, lo = (al + 10 - bl - c) % 10 := ⟨_, rfl⟩
  have hon1 : on ≤ 1 := by omega
  have hlo1 : lo ≤ 9 := by omega
  rw [← hon, ← hlo]
  have HON := Lib.hid hon
  have HLO := Lib.hid hlo
  clear hon hlo
  go_wp2_with fail
  refine (less_any ah bh on w h1 h3 hon1).mono ?_
  rintro e _ ⟨rfl, rfl⟩
  obtain ⟨hi, hhi⟩ : ∃ hi, hi = (ah + 10 - bh - on) % 10 := ⟨_, rfl⟩
  obtain ⟨out, hout⟩ : ∃ out, out = 1 - (ah + 10 - bh - on) / 10 := ⟨_, rfl⟩
  have hhi1 : hi ≤ 9 := by omega
  rw [← hhi, ← hout]
  have a5 := i64_or16 hi lo (by omega) (by omega)
  have HHI := Lib.hid hhi
  have HOUT := Lib.hid hout
  clear hhi hout
  go_wp2
  go_ret2
  exact ⟨by rw [← HON.out, ← HLO.out, ← HHI.out, ← HOUT.out]; rfl, rfl⟩

set_option maxRecDepth 100000 in
theorem Add_dec (ah al bh bl hi lo out : Nat) (w : World) (h1 : ah ≤ 9) (h2 : al ≤ 9) (h3 : bh ≤ 9) (h4 : bl ≤ 9) (h5 : hi ≤ 9) (h6 : lo ≤ 9) (hs : 10 * ah + al + (10 * bh + bl) = 100 * out + (10 * hi + lo)) :
    Calls Try.prog 27 #[.int .u8 ((ah : Int) * 16 + (al : Int)), .int .u8 ((bh : Int) * 16 + (bl : Int)), .int .u8 8] w
      fun e w' => (∃ q : Nat, e = .returned (.tuple #[.int .u8 ((hi : Int) * 16 + (lo : Int)), .int .u8 (q : Int), .bool true]) ∧ q < 256 ∧ isN q 1 = decide (out ≠ 0)) ∧ w = w' := by
  have d1 : (al + bl + 0) % 10 = lo := by omega
  have d2 : (ah + bh + (al + bl + 0) / 10) % 10 = hi := by omega
  have d3 : (ah + bh + (al + bl + 0) / 10) / 10 = out := by omega
  have D := Lib.hid (And.intro d1 (And.intro d2 d3))
  clear d1 d2 d3
  obtain ⟨r, hr⟩ : ∃ r, r = hi * 16 + lo := ⟨_, rfl⟩
  have hr2 : r < 256 := by omega
  have er : (hi : Int) * 16 + (lo : Int) = (r : Int) := by omega
  have ho : out ≤ 1 := by omega
  clear hs hr
  go_enter Try.func27, Try.ntmps27
  go_wp2_with fail
  refine (FIs_any 8 8 w (by omega) (by omega)).mono ?_
  rintro e _ ⟨rfl, rfl⟩
  rw [show isN 8 8 = true by decide +kernel]
  go_wp2_with fail
  refine (carry_any 8 w (by omega)).mono ?_
  rintro e _ ⟨rfl, rfl⟩
  go_wp2_with fail
  refine (both_more ah al bh bl 0 w h1 h2 h3 h4 (by omega)).mono ?_
  rintro e _ ⟨rfl, rfl⟩
  rw [D.out.1, D.out.2.1, D.out.2.2, er]
  clear D
  go_wp2_with fail
  rw [show ((out : Int) != 0) = decide (out ≠ 0) by cases out <;> rfl]
  obtain ⟨c, hc⟩ : ∃ c, c = decide (out ≠ 0) := ⟨_, rfl⟩
  rw [← hc]
  refine (of_byte 8 r _ w hr2 (by omega)).mono ?_
  rintro e _ ⟨rfl, rfl⟩
  have hq1 := setN_lt 8 1 c (by omega) (by omega)
  have hq2 := resN_lt _ r hq1
  have hq3 := (res_par _ r hq1).trans (set1_par 8 c (by omega))
  have HC := Lib.hid hc
  clear hc
  go_wp2
  go_ret3
  exact ⟨⟨_, by rw [er]; rfl, hq2, hq3.trans HC.out⟩, rfl⟩

set_option maxRecDepth 100000 in
theorem Sub_dec (ah al bh bl hi lo out : Nat) (w : World) (h1 : ah ≤ 9) (h2 : al ≤ 9) (h3 : bh ≤ 9) (h4 : bl ≤ 9) (h5 : hi ≤ 9) (h6 : lo ≤ 9) (hs : 100 * out + (10 * ah + al) = (10 * bh + bl) + (10 * hi + lo)) :
    Calls Try.prog 48 #[.int .u8 ((ah : Int) * 16 + (al : Int)), .int .u8 ((bh : Int) * 16 + (bl : Int)), .int .u8 9] w
      fun e w' => (∃ q : Nat, e = .returned (.tuple #[.int .u8 ((hi : Int) * 16 + (lo : Int)), .int .u8 (q : Int), .bool true]) ∧ q < 256 ∧ isN q 1 = decide (out = 0)) ∧ w = w' := by
  have d1 : (al + 10 - bl - 0) % 10 = lo := by omega
  have d2 : (ah + 10 - bh - (1 - (al + 10 - bl - 0) / 10)) % 10 = hi := by omega
  have d3 : 1 - (ah + 10 - bh - (1 - (al + 10 - bl - 0) / 10)) / 10 = out := by omega
  have D := Lib.hid (And.intro d1 (And.intro d2 d3))
  clear d1 d2 d3
  obtain ⟨r, hr⟩ : ∃ r, r = hi * 16 + lo := ⟨_, rfl⟩
  have hr2 : r < 256 := by omega
  have er : (hi : Int) * 16 + (lo : Int) = (r : Int) := by omega
  have ho : out ≤ 1 := by omega
  clear hs hr
  go_enter Try.func48, Try.ntmps48
  go_wp2_with fail
  refine (FIs_any 9 8 w (by omega) (by omega)).mono ?_
  rintro e _ ⟨rfl, rfl⟩
  rw [show isN 9 8 = true by decide +kernel]
  go_wp2_with fail
  refine (carry_any 9 w (by omega)).mono ?_
  rintro e _ ⟨rfl, rfl⟩
  go_wp2_with fail
  refine (both_less ah al bh bl 0 w h1 h2 h3 h4 (by omega)).mono ?_
  rintro e _ ⟨rfl, rfl⟩
  rw [D.out.1, D.out.2.1, D.out.2.2, er]
  clear D
  go_wp2_with fail
  rw [show ((out : Int) == 0) = decide (out = 0) by cases out <;> rfl]
  obtain ⟨c, hc⟩ : ∃ c, c = decide (out = 0) := ⟨_, rfl⟩
  rw [← hc]
  refine (of_byte 9 r _ w hr2 (by omega)).mono ?_
  rintro e _ ⟨rfl, rfl⟩
  have hq1 := setN_lt 9 1 c (by omega) (by omega)
  have hq2 := resN_lt _ r hq1
  have hq3 := (res_par _ r hq1).trans (set1_par 9 c (by omega))
  have HC := Lib.hid hc
  clear hc
  go_wp2
  go_ret3
  exact ⟨⟨_, by rw [er]; rfl, hq2, hq3.trans HC.out⟩, rfl⟩

set_option maxRecDepth 100000 in
theorem Pack_any (x h l : Nat) (w : World) (h1 : h ≤ 9) (h2 : l ≤ 9) (hx : x = 10 * h + l) : Calls Try.prog 47 #[.int .i64 (x : Int)] w fun e w' => e = .returned (.tuple #[.int .u8 ((h : Int) * 16 + (l : Int)), .int .i64 0]) ∧ w = w' := by
  have e1 : (x : Int).tdiv 10 = (h : Int) := by rw [Int.tdiv_eq_ediv_of_nonneg (by omega)]; omega
  have e2 : (x : Int).tmod 10 = (l : Int) := by rw [Int.tmod_eq_emod_of_nonneg (by omega)]; omega
  have hx2 : x ≤ 99 := by omega
  clear hx
  go_enter Try.func47, Try.ntmps47
  go_wp2
  go_ret2
  exact ⟨rfl, rfl⟩

set_option maxRecDepth 100000 in
theorem Unpack_any (x h l : Nat) (w : World) (h1 : h ≤ 9) (h2 : l ≤ 9) (hx : x = 10 * h + l) : Calls Try.prog 49 #[.int .u8 ((h : Int) * 16 + (l : Int))] w fun e w' => e = .returned (.tuple #[.int .i64 (x : Int), .int .i64 0]) ∧ w = w' := by
  have e1 : ((h : Int) * 16 + (l : Int)).tdiv 16 = (h : Int) := by rw [Int.tdiv_eq_ediv_of_nonneg (by omega)]; omega
  have e2 : ((h : Int) * 16 + (l : Int)).tmod 16 = (l : Int) := by rw [Int.tmod_eq_emod_of_nonneg (by omega)]; omega
  have e3 : (h : Int) * 10 + (l : Int) = (x : Int) := by omega
  have hx2 : x ≤ 99 := by omega
  clear hx
  go_enter Try.func49, Try.ntmps49
  go_wp2
  go_ret2
  exact ⟨rfl, rfl⟩
end Go.Proofs.Ytgkbpdcedighcab
