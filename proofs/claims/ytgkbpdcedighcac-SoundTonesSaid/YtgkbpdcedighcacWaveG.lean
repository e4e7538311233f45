/-
  The walks of wave.Channel: Period, Go, what it tells, Clone.
-/
import Derived.Test.YtgkbpdcedighcacWaveW
namespace Go.Proofs.Ytgkbpdcedighcac
open Go.RowKit Go.Sort NoiseP

/-- The noise goes on, if the channel is noisy. -/
def nsS (ny : Bool) (s : Nat) (l p n : Int) : Nat := if ny then goS s l p n else s
def nsL (ny : Bool) (l p n : Int) : Int := if ny then goL l p n else l
/-- The channel itself goes on, if it is on and does not tell its level. -/
def wgPl (co pl : Nat) (lf p n : Int) : Nat := if co / 64 = 2 then goPl pl lf p n else pl
def wgLf (co : Nat) (lf p n : Int) : Int := if co / 64 = 2 then goLf lf p n else lf
theorem wgPl_lt (co pl : Nat) (lf p n : Int) (h : pl < 32) : wgPl co pl lf p n < 32 := by
  unfold wgPl
  split
  · exact goPl_lt _ _ _ _ h
  · exact h
theorem wgLf_le (co : Nat) (lf p n : Int) (hl : 1 ≤ lf ∧ lf ≤ 4096) (hp : 1 ≤ p ∧ p ≤ 4096) (hn : 0 ≤ n) : 1 ≤ wgLf co lf p n ∧ wgLf co lf p n ≤ 4096 := by
  unfold wgLf
  split
  · exact goLf_le _ _ _ hl hp hn
  · exact hl
/-- The level. -/
def lvW (co to : Nat) (ny : Bool) (wv : Nat → Nat) (pl s : Nat) : Int := if co < 128 then 0 else if co / 64 = 3 then (to : Int) else if ny then levN s else (wv pl : Int)

section
variable (c b fr : Nat) (be : Int) (co ba to : Nat) (ny : Bool) (wv : Nat → Nat) (pl : Nat) (lf : Int) (w : World)

set_option maxRecDepth 100000 in
theorem Period_w (hA : At w c 138 (wz b fr be co ba to ny wv pl lf)) (hfr : fr < 4096) (hbe : -4096 ≤ be ∧ be ≤ 4096) :
    Calls Try.prog 44 #[.pointer (some ⟨c, 0, none⟩)] w fun e w' => e = .returned (.int .i64 (perW fr be)) ∧ ∃ n, w' = w.drewN n := by
  have c1 := hA.cell 1 rfl
  have c2 := hA.cell 2 rfl
  have e1 := i64_and4095 ((fr : Int) + be) (by omega)
  have HP : Hid (perW fr be = if ((fr : Int) + be) % 4096 = 0 then 4096 else ((fr : Int) + be) % 4096) := Lib.hid rfl
  generalize ((fr : Int) + be) % 4096 = q at *
  have HA := Lib.hid hA
  clear hA
  have hqb : (q == 0) = decide (q = 0) := by by_cases h : q = 0 <;> simp [h]
  cases hq : decide (q = 0)
  · rw [hq] at hqb
    go_enter Try.func44, Try.ntmps44
    go_wp2_with fail
    refine (is_any c b fr be co ba to ny wv pl lf w HA.out).mono ?_
    rintro e _ ⟨rfl, rfl⟩
    go_wp2_with fail
    refine wp_region_quiet_lit (by kernel_rfl) (by kernel_rfl) ?_
    repeat (go_big_quiet_step ((fail)))
    refine wpQuiet_nil ?_
    intro _ hw'
    obtain ⟨nq, rfl⟩ := hw'
    go_wp2
    go_ret
    exact ⟨by rw [HP.out, if_neg (by simpa using hq)]; rfl, nq, rfl⟩
  · rw [hq] at hqb
    go_enter Try.func44, Try.ntmps44
    go_wp2_with fail
    refine (is_any c b fr be co ba to ny wv pl lf w HA.out).mono ?_
    rintro e _ ⟨rfl, rfl⟩
    go_wp2_with fail
    refine wp_region_quiet_lit (by kernel_rfl) (by kernel_rfl) ?_
    repeat (go_big_quiet_step ((fail)))
    refine wpQuiet_nil ?_
    intro _ hw'
    obtain ⟨nq, rfl⟩ := hw'
    go_wp2
    go_ret
    exact ⟨by rw [HP.out, if_pos (by simpa using hq)]; rfl, nq, rfl⟩

theorem Volume_any (hA : At w c 138 (wz b fr be co ba to ny wv pl lf)) (hco : co < 256) : Calls Try.prog 79 #[.pointer (some ⟨c, 0, none⟩)] w fun e w' => e = .returned (.int .u8 (co % 32 : Nat)) ∧ w = w' := by
  have c3 := hA.cell 3 rfl
  have e1 := u8_and31' co hco
  generalize co % 32 = q at *
  have HA := Lib.hid hA
  clear hA
  go_enter Try.func79, Try.ntmps79
  go_wp2_with fail
  refine (is_any c b fr be co ba to ny wv pl lf w HA.out).mono ?_
  rintro e _ ⟨rfl, rfl⟩
  go_wp2
  go_ret
  exact ⟨rfl, rfl⟩

theorem Balance_any (hA : At w c 138 (wz b fr be co ba to ny wv pl lf)) (hba : ba < 256) : Calls Try.prog 78 #[.pointer (some ⟨c, 0, none⟩)] w fun e w' => e = .returned (.tuple #[.int .u8 (ba / 16 : Nat), .int .u8 (ba % 16 : Nat)]) ∧ ∃ n, w' = w.drewN n := by
  have c4 := hA.cell 4 rfl
  have e1 := u8_and15' ba hba
  have e2 : (ba : Int) / 16 = ((ba / 16 : Nat) : Int) := by omega
  generalize ba % 16 = q at *
  generalize ba / 16 = r at *
  have HA := Lib.hid hA
  clear hA
  go_enter Try.func78, Try.ntmps78
  go_wp2_with fail
  refine (is_any c b fr be co ba to ny wv pl lf w HA.out).mono ?_
  rintro e _ ⟨rfl, rfl⟩
  go_wp2_with fail
  refine wp_region_quiet_lit (by kernel_rfl) (by kernel_rfl) ?_
  repeat (go_big_quiet_step ((fail)))
  refine wpQuiet_nil ?_
  intro _ hw'
  obtain ⟨nq, rfl⟩ := hw'
  go_wp2
  go_ret2
  exact ⟨rfl, nq, rfl⟩

theorem Place_any (hA : At w c 138 (wz b fr be co ba to ny wv pl lf)) : Calls Try.prog 40 #[.pointer (some ⟨c, 0, none⟩)] w fun e w' => e = .returned (.int .i64 (pl : Int)) ∧ w = w' := by
  have c39 := hA.cell 39 rfl
  have HA := Lib.hid hA
  clear hA
  go_enter Try.func40, Try.ntmps40
  go_wp2_with fail
  refine (is_any c b fr be co ba to ny wv pl lf w HA.out).mono ?_
  rintro e _ ⟨rfl, rfl⟩
  go_wp2
  go_ret
  exact ⟨rfl, rfl⟩

theorem Until_any (hA : At w c 138 (wz b fr be co ba to ny wv pl lf)) : Calls Try.prog 41 #[.pointer (some ⟨c, 0, none⟩)] w fun e w' => e = .returned (.int .i64 lf) ∧ w = w' := by
  have c40 := hA.cell 40 rfl
  have HA := Lib.hid hA
  clear hA
  go_enter Try.func41, Try.ntmps41
  go_wp2_with fail
  refine (is_any c b fr be co ba to ny wv pl lf w HA.out).mono ?_
  rintro e _ ⟨rfl, rfl⟩
  go_wp2
  go_ret
  exact ⟨rfl, rfl⟩

set_option maxRecDepth 100000 in
set_option maxHeartbeats 2000000 in
theorem Level_w (s : Nat) (l p : Int) (hA : At w c 138 (wz b fr be co ba to ny wv pl lf)) (hN : At w b 175 (nz s l p)) (hco : co < 256) (hs : s < 4294967296) (hpl : pl < 32) :
    Calls Try.prog 42 #[.pointer (some ⟨c, 0, none⟩)] w fun e w' => e = .returned (.int .u8 (lvW co to ny wv pl s)) ∧ ∃ n, w' = w.drewN n := by
  have c5 := hA.cell 5 rfl
  have c6 := hA.cell 6 rfl
  have c0 := hA.cell 0 rfl
  have c39 := hA.cell 39 rfl
  have cw := hA.cell (7 + pl) (wz_wave hpl)
  have HA := Lib.hid hA
  have HN := Lib.hid hN
  clear hA hN
  have HV : Hid (lvW co to ny wv pl s = if co < 128 then 0 else if co / 64 = 3 then (to : Int) else if ny then levN s else (wv pl : Int)) := Lib.hid rfl
  by_cases ho : 128 ≤ co
  · by_cases ht : co / 64 % 2 = 1
    · have HV2 : Hid (lvW co to ny wv pl s = to) := Lib.hid (by rw [HV.out, if_neg (by omega), if_pos (by omega)])
      go_enter Try.func42, Try.ntmps42
      go_wp2_with fail
      refine (On_any c b fr be co ba to ny wv pl lf w HA.out hco).mono ?_
      rintro e _ ⟨rfl, rfl⟩
      rw [decide_eq_true ho]
      go_wp2_with fail
      refine (tells_any c b fr be co ba to ny wv pl lf w HA.out hco).mono ?_
      rintro e _ ⟨rfl, rfl⟩
      rw [decide_eq_true ht]
      go_wp2
      go_ret
      exact ⟨by rw [HV2.out]; rfl, 0, rfl⟩
    · cases ny
      · have HV2 : Hid (lvW co to false wv pl s = wv pl) := Lib.hid (by rw [HV.out, if_neg (by omega), if_neg (by omega)]; rfl)
        go_enter Try.func42, Try.ntmps42
        go_wp2_with fail
        refine (On_any c b fr be co ba to false wv pl lf w HA.out hco).mono ?_
        rintro e _ ⟨rfl, rfl⟩
        rw [decide_eq_true ho]
        go_wp2_with fail
        refine (tells_any c b fr be co ba to false wv pl lf w HA.out hco).mono ?_
        rintro e _ ⟨rfl, rfl⟩
        rw [decide_eq_false ht]
        go_wp2_with fail
        refine wp_region_quiet_lit (by kernel_rfl) (by kernel_rfl) ?_
        repeat (go_big_quiet_step ((fail)))
        refine wpQuiet_nil ?_
        intro _ hw'
        obtain ⟨nq, rfl⟩ := hw'
        go_wp2
        go_ret
        exact ⟨by rw [HV2.out]; rfl, nq, rfl⟩
      · have HV2 : Hid (lvW co to true wv pl s = levN s) := Lib.hid (by rw [HV.out, if_neg (by omega), if_neg (by omega)]; rfl)
        go_enter Try.func42, Try.ntmps42
        go_wp2_with fail
        refine (On_any c b fr be co ba to true wv pl lf w HA.out hco).mono ?_
        rintro e _ ⟨rfl, rfl⟩
        rw [decide_eq_true ho]
        go_wp2_with fail
        refine (tells_any c b fr be co ba to true wv pl lf w HA.out hco).mono ?_
        rintro e _ ⟨rfl, rfl⟩
        rw [decide_eq_false ht]
        go_wp2_with fail
        refine (Level_any b s l p w HN.out hs).mono ?_
        rintro e _ ⟨rfl, rfl⟩
        go_wp2
        go_ret
        exact ⟨by rw [HV2.out]; rfl, 0, rfl⟩
  · have HV2 : Hid (lvW co to ny wv pl s = 0) := Lib.hid (by rw [HV.out, if_pos (by omega)])
    go_enter Try.func42, Try.ntmps42
    go_wp2_with fail
    refine (On_any c b fr be co ba to ny wv pl lf w HA.out hco).mono ?_
    rintro e _ ⟨rfl, rfl⟩
    rw [decide_eq_false ho]
    go_wp2
    go_ret
    exact ⟨by rw [HV2.out]; rfl, 0, rfl⟩

set_option maxRecDepth 100000 in
set_option maxHeartbeats 4000000 in
/-- No noise: the channel itself. -/
theorem Go_quiet (n : Int) (hA : At w c 138 (wz b fr be co ba to false wv pl lf)) (hfr : fr < 4096) (hbe : -4096 ≤ be ∧ be ≤ 4096) (hco : co < 256) (hpl : pl < 32) (hlf : 1 ≤ lf ∧ lf ≤ 4096) (hn : 0 ≤ n ∧ n ≤ 1099511627776) :
    Calls Try.prog 39 #[.pointer (some ⟨c, 0, none⟩), .int .i64 n] w fun e w' => e = .returned (.tuple #[]) ∧ At w' c 138 (wz b fr be co ba to false wv (wgPl co pl lf (perW fr be) n) (wgLf co lf (perW fr be) n)) ∧ Upd (· = c) w w' := by
  have c6 := hA.cell 6 rfl
  have HA := Lib.hid hA
  clear hA
  go_enter Try.func39, Try.ntmps39
  go_wp2_with fail
  refine (is_any c b fr be co ba to false wv pl lf w HA.out).mono ?_
  rintro e _ ⟨rfl, rfl⟩
  go_wp2_with fail
  refine (On_any c b fr be co ba to false wv pl lf w HA.out hco).mono ?_
  rintro e _ ⟨rfl, rfl⟩
  by_cases ho : 128 ≤ co
  · rw [decide_eq_true ho]
    go_wp2_with fail
    refine (tells_any c b fr be co ba to false wv pl lf w HA.out hco).mono ?_
    rintro e _ ⟨rfl, rfl⟩
    by_cases ht : co / 64 % 2 = 1
    · rw [decide_eq_true ht]
      have g1 : wgPl co pl lf (perW fr be) n = pl := by rw [wgPl, if_neg (by omega)]
      have g2 : wgLf co lf (perW fr be) n = lf := by rw [wgLf, if_neg (by omega)]
      have E1 := Lib.hid g1
      have E2 := Lib.hid g2
      clear g1 g2
      go_wp2
      go_end0
      exact ⟨rfl, by rw [E1.out, E2.out]; exact HA.out, Upd.refl _ _⟩
    · rw [decide_eq_false ht]
      have h2 : co / 64 = 2 := by omega
      have c39 := HA.out.cell 39 rfl
      have f39 := HA.out.frozen 39
      have c40 := HA.out.cell 40 rfl
      have f40 := HA.out.frozen 40
      by_cases hlt : n < lf
      · have g1 : wgPl co pl lf (perW fr be) n = pl := by rw [wgPl, if_pos h2, goPl, if_pos hlt]
        have g2 : wgLf co lf (perW fr be) n = lf - n := by rw [wgLf, if_pos h2, goLf, if_pos hlt]
        have E1 := Lib.hid g1
        have E2 := Lib.hid g2
        clear g1 g2
        have hd : decide (n < lf) = true := decide_eq_true hlt
        go_wp2
        go_end0
        exact ⟨rfl, by rw [E1.out, E2.out]; exact HA.out.set 40 _, (Upd.refl _ _).here _⟩
      · have hd : decide (n < lf) = false := decide_eq_false hlt
        have g1 : wgPl co pl lf (perW fr be) n = ((pl : Int) + 1 + (n - lf) / perW fr be).toNat % 32 := by rw [wgPl, if_pos h2, goPl, if_neg hlt]
        have g2 : wgLf co lf (perW fr be) n = perW fr be - (n - lf) % perW fr be := by rw [wgLf, if_pos h2, goLf, if_neg hlt]
        have E1 := Lib.hid g1
        have E2 := Lib.hid g2
        have hp := perW_pos fr be
        clear g1 g2
        go_wp2_with fail
        refine (Period_w c b fr be co ba to false wv pl lf w HA.out hfr hbe).mono ?_
        rintro e _ ⟨rfl, n1, rfl⟩
        obtain ⟨p, hpp⟩ : ∃ p, p = perW fr be := ⟨_, rfl⟩
        have HPP := Lib.hid hpp
        rw [← hpp] at hp ⊢
        replace E1 : Hid (wgPl co pl lf (perW fr be) n = ((pl : Int) + 1 + (n - lf) / p).toNat % 32) := Lib.hid (by rw [HPP.out]; exact E1.out)
        replace E2 : Hid (wgLf co lf (perW fr be) n = p - (n - lf) % p) := Lib.hid (by rw [HPP.out]; exact E2.out)
        clear hpp
        have t1 : (n - lf).tdiv p = (n - lf) / p := Int.tdiv_eq_ediv_of_nonneg (by omega)
        have t2 : (n - lf).tmod p = (n - lf) % p := Int.tmod_eq_emod_of_nonneg (by omega)
        have b1 : 0 ≤ (n - lf) / p := Int.ediv_nonneg (by omega) (by omega)
        have b2 : (n - lf) / p ≤ 1099511627776 := Int.le_trans (Int.ediv_le_self _ (by omega)) (by omega)
        have b3 : 0 ≤ (n - lf) % p ∧ (n - lf) % p < p := ⟨Int.emod_nonneg _ (by omega), Int.emod_lt_of_pos _ (by omega)⟩
        generalize hd1 : (n - lf) / p = d at *
        generalize hr1 : (n - lf) % p = r at *
        clear hd1 hr1
        obtain ⟨q, hq⟩ : ∃ q, q = ((pl : Int) + 1 + d).toNat % 32 := ⟨_, rfl⟩
        have t3 : ((pl : Int) + 1 + d).tmod 32 = (q : Int) := by rw [Int.tmod_eq_emod_of_nonneg (by omega)]; omega
        have HQ := Lib.hid hq
        clear hq
        go_wp2_with fail
        refine region_drew_tail 13 (by kernel_rfl) (by kernel_rfl) ?_
        simp only [List.take_succ_cons, List.take_zero, List.drop_succ_cons, List.drop_zero]
        repeat (go_big_quiet_step ((fail)))
        refine wpQuiet_nil ?_
        intro _ hw'
        obtain ⟨nq, rfl⟩ := hw'
        go_wp2
        go_end0
        exact ⟨rfl, by rw [E1.out, E2.out, ← HQ.out]; exact ((HA.out.drewN _).set 39 _).set 40 _, (((Upd.refl _ _).drewN _).here _).here _⟩
  · rw [decide_eq_false ho]
    have g1 : wgPl co pl lf (perW fr be) n = pl := by rw [wgPl, if_neg (by omega)]
    have g2 : wgLf co lf (perW fr be) n = lf := by rw [wgLf, if_neg (by omega)]
    have E1 := Lib.hid g1
    have E2 := Lib.hid g2
    clear g1 g2
    go_wp2
    go_end0
    exact ⟨rfl, by rw [E1.out, E2.out]; exact HA.out, Upd.refl _ _⟩

set_option maxRecDepth 100000 in
set_option maxHeartbeats 4000000 in
/-- Noise, and the channel itself. -/
theorem Go_noisy (s : Nat) (l p0 : Int) (n : Int) (hA : At w c 138 (wz b fr be co ba to true wv pl lf)) (hfr : fr < 4096) (hbe : -4096 ≤ be ∧ be ≤ 4096) (hco : co < 256) (hpl : pl < 32) (hlf : 1 ≤ lf ∧ lf ≤ 4096) (hn : 0 ≤ n ∧ n ≤ 1099511627776) (hN : At w b 175 (nz s l p0)) (hs : s < 262144) (hl : 1 ≤ l ∧ l ≤ 1984) (hp0 : 1 ≤ p0 ∧ p0 ≤ 1984) :
    Calls Try.prog 39 #[.pointer (some ⟨c, 0, none⟩), .int .i64 n] w fun e w' => e = .returned (.tuple #[]) ∧ At w' c 138 (wz b fr be co ba to true wv (wgPl co pl lf (perW fr be) n) (wgLf co lf (perW fr be) n)) ∧ At w' b 175 (nz (goS s l p0 n) (goL l p0 n) p0) ∧ Upd (fun k => k = c ∨ k = b) w w' := by
  have c6 := hA.cell 6 rfl
  have c0 := hA.cell 0 rfl
  have hne : b ≠ c := hN.ne_ hA (by decide)
  have HA0 := Lib.hid hA
  have HN0 := Lib.hid hN
  clear hA hN
  go_enter Try.func39, Try.ntmps39
  go_wp2_with fail
  refine (is_any c b fr be co ba to true wv pl lf w HA0.out).mono ?_
  rintro e _ ⟨rfl, rfl⟩
  go_wp2_with fail
  refine (Go_any b s l p0 n w HN0.out hs hl hp0 hn).mono ?_
  rintro e w2 ⟨rfl, hN2, hU2⟩
  have HN := Lib.hid hN2
  have HA := Lib.hid (HA0.out.upd hU2 (fun h => hne h.symm))
  have HU2 : Hid (Upd (fun k => k = c ∨ k = b) w w2) := Lib.hid (hU2.mono fun _ _ h => .inr h)
  clear hN2 hU2 HA0 HN0 c6 c0
  go_wp2_with fail
  refine (On_any c b fr be co ba to true wv pl lf w2 HA.out hco).mono ?_
  rintro e _ ⟨rfl, rfl⟩
  by_cases ho : 128 ≤ co
  · rw [decide_eq_true ho]
    go_wp2_with fail
    refine (tells_any c b fr be co ba to true wv pl lf w2 HA.out hco).mono ?_
    rintro e _ ⟨rfl, rfl⟩
    by_cases ht : co / 64 % 2 = 1
    · rw [decide_eq_true ht]
      have g1 : wgPl co pl lf (perW fr be) n = pl := by rw [wgPl, if_neg (by omega)]
      have g2 : wgLf co lf (perW fr be) n = lf := by rw [wgLf, if_neg (by omega)]
      have E1 := Lib.hid g1
      have E2 := Lib.hid g2
      clear g1 g2
      go_wp2
      go_end0
      exact ⟨rfl, by rw [E1.out, E2.out]; exact HA.out, HN.out, HU2.out⟩
    · rw [decide_eq_false ht]
      have h2 : co / 64 = 2 := by omega
      have c39 := HA.out.cell 39 rfl
      have f39 := HA.out.frozen 39
      have c40 := HA.out.cell 40 rfl
      have f40 := HA.out.frozen 40
      by_cases hlt : n < lf
      · have g1 : wgPl co pl lf (perW fr be) n = pl := by rw [wgPl, if_pos h2, goPl, if_pos hlt]
        have g2 : wgLf co lf (perW fr be) n = lf - n := by rw [wgLf, if_pos h2, goLf, if_pos hlt]
        have E1 := Lib.hid g1
        have E2 := Lib.hid g2
        clear g1 g2
        have hd : decide (n < lf) = true := decide_eq_true hlt
        go_wp2
        go_end0
        exact ⟨rfl, by rw [E1.out, E2.out]; exact HA.out.set 40 _, HN.out.far hne _, HU2.out.setCell (p := ⟨c, 40, none⟩) (.inl (.inl rfl)) _⟩
      · have hd : decide (n < lf) = false := decide_eq_false hlt
        have g1 : wgPl co pl lf (perW fr be) n = ((pl : Int) + 1 + (n - lf) / perW fr be).toNat % 32 := by rw [wgPl, if_pos h2, goPl, if_neg hlt]
        have g2 : wgLf co lf (perW fr be) n = perW fr be - (n - lf) % perW fr be := by rw [wgLf, if_pos h2, goLf, if_neg hlt]
        have E1 := Lib.hid g1
        have E2 := Lib.hid g2
        have hp := perW_pos fr be
        clear g1 g2
        go_wp2_with fail
        refine (Period_w c b fr be co ba to true wv pl lf w2 HA.out hfr hbe).mono ?_
        rintro e _ ⟨rfl, n1, rfl⟩
        obtain ⟨p, hpp⟩ : ∃ p, p = perW fr be := ⟨_, rfl⟩
        have HPP := Lib.hid hpp
        rw [← hpp] at hp ⊢
        replace E1 : Hid (wgPl co pl lf (perW fr be) n = ((pl : Int) + 1 + (n - lf) / p).toNat % 32) := Lib.hid (by rw [HPP.out]; exact E1.out)
        replace E2 : Hid (wgLf co lf (perW fr be) n = p - (n - lf) % p) := Lib.hid (by rw [HPP.out]; exact E2.out)
        clear hpp
        have t1 : (n - lf).tdiv p = (n - lf) / p := Int.tdiv_eq_ediv_of_nonneg (by omega)
        have t2 : (n - lf).tmod p = (n - lf) % p := Int.tmod_eq_emod_of_nonneg (by omega)
        have b1 : 0 ≤ (n - lf) / p := Int.ediv_nonneg (by omega) (by omega)
        have b2 : (n - lf) / p ≤ 1099511627776 := Int.le_trans (Int.ediv_le_self _ (by omega)) (by omega)
        have b3 : 0 ≤ (n - lf) % p ∧ (n - lf) % p < p := ⟨Int.emod_nonneg _ (by omega), Int.emod_lt_of_pos _ (by omega)⟩
        generalize hd1 : (n - lf) / p = d at *
        generalize hr1 : (n - lf) % p = r at *
        clear hd1 hr1
        obtain ⟨q, hq⟩ : ∃ q, q = ((pl : Int) + 1 + d).toNat % 32 := ⟨_, rfl⟩
        have t3 : ((pl : Int) + 1 + d).tmod 32 = (q : Int) := by rw [Int.tmod_eq_emod_of_nonneg (by omega)]; omega
        have HQ := Lib.hid hq
        clear hq
        go_wp2_with fail
        refine region_drew_tail 13 (by kernel_rfl) (by kernel_rfl) ?_
        simp only [List.take_succ_cons, List.take_zero, List.drop_succ_cons, List.drop_zero]
        repeat (go_big_quiet_step ((fail)))
        refine wpQuiet_nil ?_
        intro _ hw'
        obtain ⟨nq, rfl⟩ := hw'
        go_wp2
        go_end0
        exact ⟨rfl, by rw [E1.out, E2.out, ← HQ.out]; exact ((HA.out.drewN _).set 39 _).set 40 _, ((HN.out.drewN _).far hne _).far hne _, ((HU2.out.drewN _).setCell (p := ⟨c, 39, none⟩) (.inl (.inl rfl)) _).setCell (p := ⟨c, 40, none⟩) (.inl (.inl rfl)) _⟩
  · rw [decide_eq_false ho]
    have g1 : wgPl co pl lf (perW fr be) n = pl := by rw [wgPl, if_neg (by omega)]
    have g2 : wgLf co lf (perW fr be) n = lf := by rw [wgLf, if_neg (by omega)]
    have E1 := Lib.hid g1
    have E2 := Lib.hid g2
    clear g1 g2
    go_wp2
    go_end0
    exact ⟨rfl, by rw [E1.out, E2.out]; exact HA.out, HN.out, HU2.out⟩
end
end Go.Proofs.Ytgkbpdcedighcac
