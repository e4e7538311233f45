/-
  The walk of the reference 14's Go.
-/
import Derived.Test.YtgkbpdcedighcacRWaveW
namespace Go.Proofs.Ytgkbpdcedighcac
open Go.RowKit Go.Sort NoiseP

theorem goPl_step (pl : Nat) (lf p n : Int) (hp : 1 ≤ p) (h : lf ≤ n) : goPl pl lf p n = goPl ((pl + 1) % 32) p p (n - lf) ∧ goLf lf p n = goLf p p (n - lf) := by
  obtain ⟨m, hm⟩ : ∃ m, m = n - lf := ⟨_, rfl⟩
  have hm0 : 0 ≤ m := by omega
  unfold goPl goLf
  rw [← hm, if_neg (show ¬ n < lf by omega), if_neg (show ¬ n < lf by omega)]
  by_cases hlt : m < p
  · rw [if_pos hlt, if_pos hlt, Int.ediv_eq_zero_of_lt hm0 hlt, Int.emod_eq_of_lt hm0 hlt]
    exact ⟨by omega, rfl⟩
  · rw [if_neg hlt, if_neg hlt]
    have e1 : (m - p) / p = m / p - 1 := by rw [Int.sub_ediv_of_dvd _ (Int.dvd_refl p), Int.ediv_self (by omega)]
    have e2 : (m - p) % p = m % p := by rw [Int.sub_emod_right]
    have hq : 1 ≤ m / p := (Int.le_ediv_iff_mul_le (by omega)).2 (by omega)
    rw [e1, e2]
    exact ⟨by omega, rfl⟩

section
variable (c g fr : Nat) (be : Int) (co ba to : Nat) (ny : Bool) (wv : Nat → Nat) (pl : Nat) (lf : Int) (w : World)

set_option maxRecDepth 100000 in
set_option maxHeartbeats 4000000 in
theorem QGo_any (s : Nat) (l f n : Int) (hA : At w c 129 (cz g fr be co ba to ny wv pl lf)) (hfr : fr < 4096) (hbe : -4096 ≤ be ∧ be ≤ 4096) (hco : co < 256) (hpl : pl < 32) (hlf : 1 ≤ lf ∧ lf ≤ 4096) (hn : 0 ≤ n ∧ n ≤ 1099511627776) (hN : At w g 172 (rz s l f)) (hs : s < 262144) (hl : 1 ≤ l ∧ l ≤ 1984) (hf : 0 ≤ f ∧ f ≤ 255) :
    Calls Try.prog 83 #[.pointer (some ⟨c, 0, none⟩), .int .i64 n] w fun e w' => e = .returned (.tuple #[]) ∧ At w' c 129 (cz g fr be co ba to ny wv (wgPl co pl lf (perW fr be) n) (wgLf co lf (perW fr be) n)) ∧ At w' g 172 (rz (nsS ny s l (perI f) n) (nsL ny l (perI f) n) f) ∧ Upd (fun k => k = c ∨ k = g) w w' := by
  have c38 := hA.cell 38 rfl
  have c39 := hA.cell 39 rfl
  have hne : g ≠ c := hN.ne_ hA (by decide)
  have hd0 : decide (n < 0) = false := by rw [decide_eq_false_iff_not]; omega
  have HA := Lib.hid hA
  have HN := Lib.hid hN
  obtain ⟨S, hS⟩ : ∃ S, S = nsS ny s l (perI f) n := ⟨_, rfl⟩
  obtain ⟨L, hL⟩ : ∃ L, L = nsL ny l (perI f) n := ⟨_, rfl⟩
  rw [← hS, ← hL]
  have HS := Lib.hid hS
  have HL := Lib.hid hL
  clear hA hN hS hL
  by_cases h2 : co / 64 = 2
  · skip
    have e1 : (co : Int).tdiv 64 = 2 := by rw [Int.tdiv_eq_ediv_of_nonneg (by omega)]; omega
    obtain ⟨PL, hPL⟩ : ∃ x, x = goPl pl lf (perW fr be) n := ⟨_, rfl⟩
    obtain ⟨LF, hLF⟩ : ∃ x, x = goLf lf (perW fr be) n := ⟨_, rfl⟩
    rw [show wgPl co pl lf (perW fr be) n = PL by rw [wgPl, if_pos h2, hPL], show wgLf co lf (perW fr be) n = LF by rw [wgLf, if_pos h2, hLF]]
    obtain ⟨p, hp⟩ : ∃ p, p = perW fr be := ⟨_, rfl⟩
    have hp1 : 1 ≤ p ∧ p ≤ 4096 := hp ▸ perW_pos fr be
    have HPP := Lib.hid hp
    rw [← hp] at hPL hLF
    have HPL := Lib.hid hPL
    have HLF := Lib.hid hLF
    clear hp hPL hLF h2
    cases ny
    · obtain rfl : S = s := HS.out
      obtain rfl : L = l := HL.out
      have HU := Lib.hid (Upd.refl (fun k => k = c ∨ k = g) w)
      have c3 := HA.out.cell 3 rfl
      go_enter Try.func83, Try.ntmps83
      go_wp2_with fail
      go_loopw [1] (fun i wr => ∃ (pl' : Nat) (l' n' : Int), i = .int .i64 n' ∧ (0 ≤ n' ∧ n' ≤ 1099511627776) ∧ pl' < 32 ∧ (1 ≤ l' ∧ l' ≤ 4096) ∧ Hid (PL = goPl pl' l' p n') ∧ Hid (LF = goLf l' p n') ∧ Hid (At wr c 129 (cz g fr be co ba to false wv pl' l')) ∧ Hid (At wr g 172 (rz S L f)) ∧ Hid (Upd (fun k => k = c ∨ k = g) w wr)) (fun i _ => (intOf i).toNat)
      case atStart => exact ⟨pl, lf, n, rfl, hn, hpl, hlf, HPL, HLF, HA, HN, HU⟩
      case round =>
        clear c3 hn hpl hlf HPL HLF HA HN HU HS HL
        obtain ⟨pl, lf, n, rfl, hn, hpl, hlf, HPL, HLF, HA, HN, HU⟩ := hrel
        have c40 := HA.out.cell 40 rfl
        have f40 := HA.out.frozen 40
        by_cases hlt : lf ≤ n
        · have c1 := HA.out.cell 1 rfl
          have f1 := HA.out.frozen 1
          have e4 : ((pl : Int) + 1).tmod 32 = (((pl + 1) % 32 : Nat) : Int) := by rw [Int.tmod_eq_emod_of_nonneg (by omega)]; rfl
          have hst := goPl_step pl lf p n hp1.1 hlt
          have hp2 : (pl + 1) % 32 < 32 := by omega
          rw [hst.1] at HPL
          rw [hst.2] at HLF
          clear hst
          generalize (pl + 1) % 32 = p2 at *
          have hd : decide (lf ≤ n) = true := decide_eq_true hlt
          have HA5 : Hid (At (wr.setCell ⟨c, 1, none⟩ (.int .i64 (p2 : Int))) c 129 (cz g fr be co ba to false wv p2 lf)) := Lib.hid ((HA.out.set 1 _).of_eq (cz_pl rfl))
          go_wp2_with fail
          refine (QPeriod_any c g fr be co ba to false wv p2 lf _ HA5.out hfr hbe).mono ?_
          rintro e _ ⟨rfl, nq, rfl⟩
          have HA6 := Lib.hid (HA5.out.drewN nq)
          have HN6 := Lib.hid ((HN.out.upd ((Upd.refl (· = c) wr).here (i := 1) (.int .i64 (p2 : Int))) hne).drewN nq)
          have HU6 := Lib.hid ((HU.out.setCell (p := ⟨c, 1, none⟩) (.inl (.inl rfl)) (.int .i64 (p2 : Int))).drewN nq)
          clear HA HA5 HN HU c1 f1 c40 f40
          generalize World.drewN _ nq = wd at *
          have c40 := HA6.out.cell 40 rfl
          have f40 := HA6.out.frozen 40
          rw [← HPP.out]
          go_wp2
          go_round
          case rel => exact ⟨p2, p, n - lf, by go_num, by omega, hp2, hp1, HPL, HLF, Lib.hid ((HA6.out.set 40 _).of_eq (cz_lf _)), Lib.hid (HN6.out.upd ((Upd.refl (· = c) wd).here _) hne), Lib.hid (HU6.out.setCell (.inl (.inl rfl)) _)⟩
          case measure => simp [intOf]; omega
        · have hd : decide (lf ≤ n) = false := decide_eq_false hlt
          obtain rfl : PL = pl := HPL.out.trans (if_pos (by omega))
          obtain rfl : LF = lf - n := HLF.out.trans (if_pos (by omega))
          go_wp2
          go_end0
          exact ⟨rfl, (HA.out.set 40 _).of_eq (cz_lf _), HN.out.upd ((Upd.refl (· = c) wr).here _) hne, HU.out.setCell (.inl (.inl rfl)) _⟩
    · go_enter Try.func83, Try.ntmps83
      go_wp2_with fail
      refine (RGo_any g s l f n w HN.out hs hl hf hn).mono ?_
      rintro e w2 ⟨rfl, hN2, hU2⟩
      have hA2 := HA.out.upd hU2 (fun h => hne h.symm)
      have HU := Lib.hid (hU2.mono (S' := fun k => k = c ∨ k = g) fun _ _ h => .inr h)
      rw [show goS s l (perI f) n = S from HS.out.symm, show goL l (perI f) n = L from HL.out.symm] at hN2
      clear HA HN c38 c39 hU2
      have c3 := hA2.cell 3 rfl
      have HA := Lib.hid hA2
      have HN := Lib.hid hN2
      clear hA2 hN2
      go_wp2_with fail
      go_loopw [1] (fun i wr => ∃ (pl' : Nat) (l' n' : Int), i = .int .i64 n' ∧ (0 ≤ n' ∧ n' ≤ 1099511627776) ∧ pl' < 32 ∧ (1 ≤ l' ∧ l' ≤ 4096) ∧ Hid (PL = goPl pl' l' p n') ∧ Hid (LF = goLf l' p n') ∧ Hid (At wr c 129 (cz g fr be co ba to true wv pl' l')) ∧ Hid (At wr g 172 (rz S L f)) ∧ Hid (Upd (fun k => k = c ∨ k = g) w wr)) (fun i _ => (intOf i).toNat)
      case atStart => exact ⟨pl, lf, n, rfl, hn, hpl, hlf, HPL, HLF, HA, HN, HU⟩
      case round =>
        clear c3 hn hpl hlf HPL HLF HA HN HU HS HL
        obtain ⟨pl, lf, n, rfl, hn, hpl, hlf, HPL, HLF, HA, HN, HU⟩ := hrel
        have c40 := HA.out.cell 40 rfl
        have f40 := HA.out.frozen 40
        by_cases hlt : lf ≤ n
        · have c1 := HA.out.cell 1 rfl
          have f1 := HA.out.frozen 1
          have e4 : ((pl : Int) + 1).tmod 32 = (((pl + 1) % 32 : Nat) : Int) := by rw [Int.tmod_eq_emod_of_nonneg (by omega)]; rfl
          have hst := goPl_step pl lf p n hp1.1 hlt
          have hp2 : (pl + 1) % 32 < 32 := by omega
          rw [hst.1] at HPL
          rw [hst.2] at HLF
          clear hst
          generalize (pl + 1) % 32 = p2 at *
          have hd : decide (lf ≤ n) = true := decide_eq_true hlt
          have HA5 : Hid (At (wr.setCell ⟨c, 1, none⟩ (.int .i64 (p2 : Int))) c 129 (cz g fr be co ba to true wv p2 lf)) := Lib.hid ((HA.out.set 1 _).of_eq (cz_pl rfl))
          go_wp2_with fail
          refine (QPeriod_any c g fr be co ba to true wv p2 lf _ HA5.out hfr hbe).mono ?_
          rintro e _ ⟨rfl, nq, rfl⟩
          have HA6 := Lib.hid (HA5.out.drewN nq)
          have HN6 := Lib.hid ((HN.out.upd ((Upd.refl (· = c) wr).here (i := 1) (.int .i64 (p2 : Int))) hne).drewN nq)
          have HU6 := Lib.hid ((HU.out.setCell (p := ⟨c, 1, none⟩) (.inl (.inl rfl)) (.int .i64 (p2 : Int))).drewN nq)
          clear HA HA5 HN HU c1 f1 c40 f40
          generalize World.drewN _ nq = wd at *
          have c40 := HA6.out.cell 40 rfl
          have f40 := HA6.out.frozen 40
          rw [← HPP.out]
          go_wp2
          go_round
          case rel => exact ⟨p2, p, n - lf, by go_num, by omega, hp2, hp1, HPL, HLF, Lib.hid ((HA6.out.set 40 _).of_eq (cz_lf _)), Lib.hid (HN6.out.upd ((Upd.refl (· = c) wd).here _) hne), Lib.hid (HU6.out.setCell (.inl (.inl rfl)) _)⟩
          case measure => simp [intOf]; omega
        · have hd : decide (lf ≤ n) = false := decide_eq_false hlt
          obtain rfl : PL = pl := HPL.out.trans (if_pos (by omega))
          obtain rfl : LF = lf - n := HLF.out.trans (if_pos (by omega))
          go_wp2
          go_end0
          exact ⟨rfl, (HA.out.set 40 _).of_eq (cz_lf _), HN.out.upd ((Upd.refl (· = c) wr).here _) hne, HU.out.setCell (.inl (.inl rfl)) _⟩
  · skip
    have e1 : (co : Int).tdiv 64 = ((co / 64 : Nat) : Int) := by rw [Int.tdiv_eq_ediv_of_nonneg (by omega)]; rfl
    rw [show wgPl co pl lf (perW fr be) n = pl by rw [wgPl, if_neg h2], show wgLf co lf (perW fr be) n = lf by rw [wgLf, if_neg h2]]
    have hq : co / 64 < 4 := by omega
    generalize co / 64 = q at *
    have e2 : ((q : Int) != 2) = true := by rw [bne_iff_ne]; omega
    cases ny
    · obtain rfl : S = s := HS.out
      obtain rfl : L = l := HL.out
      have HU := Lib.hid (Upd.refl (fun k => k = c ∨ k = g) w)
      have c3 := HA.out.cell 3 rfl
      go_enter Try.func83, Try.ntmps83
      go_wp2
      (try simp only [Exit.inBlock, Exit.then])
      refine bodyPost_ret (results_none rfl _ _ _) rfl ?_
      exact ⟨rfl, HA.out, HN.out, HU.out⟩
    · go_enter Try.func83, Try.ntmps83
      go_wp2_with fail
      refine (RGo_any g s l f n w HN.out hs hl hf hn).mono ?_
      rintro e w2 ⟨rfl, hN2, hU2⟩
      have hA2 := HA.out.upd hU2 (fun h => hne h.symm)
      have HU := Lib.hid (hU2.mono (S' := fun k => k = c ∨ k = g) fun _ _ h => .inr h)
      rw [show goS s l (perI f) n = S from HS.out.symm, show goL l (perI f) n = L from HL.out.symm] at hN2
      clear HA HN c38 c39 hU2
      have c3 := hA2.cell 3 rfl
      have HA := Lib.hid hA2
      have HN := Lib.hid hN2
      clear hA2 hN2
      go_wp2
      (try simp only [Exit.inBlock, Exit.then])
      refine bodyPost_ret (results_none rfl _ _ _) rfl ?_
      exact ⟨rfl, HA.out, HN.out, HU.out⟩
end
end Go.Proofs.Ytgkbpdcedighcac
