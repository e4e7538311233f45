/-
  The walk of the reference 14's Write.
-/
import Derived.Test.YtgkbpdcedighcacRWave
namespace Go.Proofs.Ytgkbpdcedighcac
open Go.RowKit Go.Sort NoiseP

section
variable {c g fr : Nat} {be : Int} {co ba to : Nat} {ny : Bool} {wv : Nat → Nat} {pl : Nat} {lf : Int}
theorem cz_fr {x : Int} {n : Nat} (h : x = n) : (cz g fr be co ba to ny wv pl lf).set 0 (.int .i64 x) = cz g n be co ba to ny wv pl lf := by subst h; rfl
theorem cz_pl {x : Int} {n : Nat} (h : x = n) : (cz g fr be co ba to ny wv pl lf).set 1 (.int .i64 x) = cz g fr be co ba to ny wv n lf := by subst h; rfl
theorem cz_to {x : Int} {n : Nat} (h : x = n) : (cz g fr be co ba to ny wv pl lf).set 5 (.int .u8 x) = cz g fr be co ba n ny wv pl lf := by subst h; rfl
theorem cz_lf (x : Int) : (cz g fr be co ba to ny wv pl lf).set 40 (.int .i64 x) = cz g fr be co ba to ny wv pl x := rfl
end

section
variable (c g fr : Nat) (be : Int) (co ba to : Nat) (ny : Bool) (wv : Nat → Nat) (pl : Nat) (lf : Int) (w : World)

set_option maxRecDepth 100000 in
theorem QWrite2 (v : Nat) (hA : At w c 129 (cz g fr be co ba to ny wv pl lf)) (hfr : fr < 4096) (hv : v < 256) :
    Calls Try.prog 69 #[.pointer (some ⟨c, 0, none⟩), .int .i64 2, .int .u8 (v : Int)] w fun e w' => e = .returned (.tuple #[]) ∧ At w' c 129 (cz g (fr / 256 * 256 + v) be co ba to ny wv pl lf) ∧ Upd (· = c) w w' := by
  have c0 := hA.cell 0 rfl
  have f0 := hA.frozen 0
  have e1 : (fr : Int).tdiv 256 = ((fr / 256 : Nat) : Int) := by rw [Int.tdiv_eq_ediv_of_nonneg (by omega)]; rfl
  have hq : fr / 256 < 16 := by omega
  generalize fr / 256 = q at *
  have HA := Lib.hid hA
  clear hA
  go_enter Try.func69, Try.ntmps69
  go_wp2
  go_end0
  exact ⟨rfl, (HA.out.set 0 _).of_eq (cz_fr (by omega)), (Upd.refl _ _).here _⟩

set_option maxRecDepth 100000 in
theorem QWrite3 (v : Nat) (hA : At w c 129 (cz g fr be co ba to ny wv pl lf)) (hfr : fr < 4096) (hv : v < 256) :
    Calls Try.prog 69 #[.pointer (some ⟨c, 0, none⟩), .int .i64 3, .int .u8 (v : Int)] w fun e w' => e = .returned (.tuple #[]) ∧ At w' c 129 (cz g (v % 16 * 256 + fr % 256) be co ba to ny wv pl lf) ∧ Upd (· = c) w w' := by
  have c0 := hA.cell 0 rfl
  have f0 := hA.frozen 0
  have e1 : (fr : Int).tmod 256 = ((fr % 256 : Nat) : Int) := by rw [Int.tmod_eq_emod_of_nonneg (by omega)]; rfl
  have e2 : (v : Int).tmod 16 = ((v % 16 : Nat) : Int) := by rw [Int.tmod_eq_emod_of_nonneg (by omega)]; rfl
  have hq : fr % 256 < 256 := by omega
  have hr : v % 16 < 16 := by omega
  generalize fr % 256 = q at *
  generalize v % 16 = r at *
  have HA := Lib.hid hA
  clear hA
  go_enter Try.func69, Try.ntmps69
  go_wp2
  go_end0
  exact ⟨rfl, (HA.out.set 0 _).of_eq (cz_fr (by omega)), (Upd.refl _ _).here _⟩

set_option maxRecDepth 100000 in
theorem QWrite4 (v : Nat) (hA : At w c 129 (cz g fr be co ba to ny wv pl lf)) (hv : v < 256) :
    Calls Try.prog 69 #[.pointer (some ⟨c, 0, none⟩), .int .i64 4, .int .u8 (v : Int)] w fun e w' => e = .returned (.tuple #[]) ∧ At w' c 129 (cz g fr be v ba to ny wv (if v / 64 = 1 then 0 else pl) lf) ∧ Upd (· = c) w w' := by
  have f3 := hA.frozen 3
  have c3 := hA.cell 3 rfl
  have f1 := hA.frozen 1
  have c1 := hA.cell 1 rfl
  have e1 : (v : Int).tdiv 64 = ((v / 64 : Nat) : Int) := by rw [Int.tdiv_eq_ediv_of_nonneg (by omega)]; rfl
  obtain ⟨p2, hp2⟩ : ∃ p2, p2 = if v / 64 = 1 then 0 else pl := ⟨_, rfl⟩
  rw [← hp2]
  by_cases h : v / 64 = 1
  · rw [if_pos h] at hp2
    rw [h] at e1
    subst hp2
    have HA := Lib.hid hA
    clear hA
    go_enter Try.func69, Try.ntmps69
    go_wp2
    go_end0
    exact ⟨rfl, (((HA.out.set 3 _).set 1 _)).of_eq rfl, ((Upd.refl _ _).here _).here _⟩
  · rw [if_neg h] at hp2
    have hq : v / 64 < 4 := by omega
    generalize v / 64 = q at *
    have e2 : ((q : Int) == 1) = false := by rw [beq_eq_false_iff_ne]; omega
    subst hp2
    have HA := Lib.hid hA
    clear hA
    go_enter Try.func69, Try.ntmps69
    go_wp2
    go_end0
    exact ⟨rfl, (HA.out.set 3 _).of_eq rfl, ((Upd.refl _ _).here _)⟩

theorem QWrite5 (v : Nat) (hA : At w c 129 (cz g fr be co ba to ny wv pl lf)) :
    Calls Try.prog 69 #[.pointer (some ⟨c, 0, none⟩), .int .i64 5, .int .u8 (v : Int)] w fun e w' => e = .returned (.tuple #[]) ∧ At w' c 129 (cz g fr be co v to ny wv pl lf) ∧ Upd (· = c) w w' := by
  have f4 := hA.frozen 4
  have c4 := hA.cell 4 rfl
  have HA := Lib.hid hA
  clear hA
  go_enter Try.func69, Try.ntmps69
  go_wp2
  go_end0
  exact ⟨rfl, (HA.out.set 4 _).of_eq rfl, ((Upd.refl _ _).here _)⟩

set_option maxRecDepth 100000 in
theorem QWrite6_told (v : Nat) (hA : At w c 129 (cz g fr be co ba to ny wv pl lf)) (hco : co < 256) (hv : v < 256) (ht : co / 64 % 2 = 1) :
    Calls Try.prog 69 #[.pointer (some ⟨c, 0, none⟩), .int .i64 6, .int .u8 (v : Int)] w fun e w' => e = .returned (.tuple #[]) ∧ At w' c 129 (cz g fr be co ba (v % 32) ny wv pl lf) ∧ Upd (· = c) w w' := by
  have c3 := hA.cell 3 rfl
  have f5 := hA.frozen 5
  have c5 := hA.cell 5 rfl
  have e1 : (co : Int).tdiv 64 = ((co / 64 : Nat) : Int) := by rw [Int.tdiv_eq_ediv_of_nonneg (by omega)]; rfl
  have e2 : ((co / 64 : Nat) : Int).tmod 2 = ((co / 64 % 2 : Nat) : Int) := by rw [Int.tmod_eq_emod_of_nonneg (by omega)]; rfl
  have e3 : (v : Int).tmod 32 = ((v % 32 : Nat) : Int) := by rw [Int.tmod_eq_emod_of_nonneg (by omega)]; rfl
  have hr : v % 32 < 32 := by omega
  have hq : co / 64 < 4 := by omega
  rw [ht] at e2
  generalize v % 32 = r at *
  generalize co / 64 = q at *
  have HA := Lib.hid hA
  clear hA
  go_enter Try.func69, Try.ntmps69
  go_wp2
  go_end0
  exact ⟨rfl, (HA.out.set 5 _).of_eq (cz_to rfl), ((Upd.refl _ _).here _)⟩

set_option maxRecDepth 100000 in
set_option maxHeartbeats 2000000 in
theorem QWrite6_wave (v : Nat) (hA : At w c 129 (cz g fr be co ba to ny wv pl lf)) (hco : co < 256) (hv : v < 256) (ht : co / 64 % 2 = 0) (hpl : pl < 32) :
    Calls Try.prog 69 #[.pointer (some ⟨c, 0, none⟩), .int .i64 6, .int .u8 (v : Int)] w fun e w' => e = .returned (.tuple #[]) ∧ At w' c 129 (cz g fr be co ba to ny (fun i => if i = pl then v % 32 else wv i) ((pl + 1) % 32) lf) ∧ Upd (· = c) w w' := by
  have c3 := hA.cell 3 rfl
  have c1 := hA.cell 1 rfl
  have f1 := hA.frozen 1
  have cw := hA.cell (6 + pl) (cz_wave hpl)
  have fw := hA.frozen (6 + pl)
  have e1 : (co : Int).tdiv 64 = ((co / 64 : Nat) : Int) := by rw [Int.tdiv_eq_ediv_of_nonneg (by omega)]; rfl
  have e2 : ((co / 64 : Nat) : Int).tmod 2 = ((co / 64 % 2 : Nat) : Int) := by rw [Int.tmod_eq_emod_of_nonneg (by omega)]; rfl
  have e3 : (v : Int).tmod 32 = ((v % 32 : Nat) : Int) := by rw [Int.tmod_eq_emod_of_nonneg (by omega)]; rfl
  have e4 : ((pl : Int) + 1).tmod 32 = (((pl + 1) % 32 : Nat) : Int) := by rw [Int.tmod_eq_emod_of_nonneg (by omega)]; rfl
  have hr : v % 32 < 32 := by omega
  have hq : co / 64 < 4 := by omega
  have hp2 : (pl + 1) % 32 < 32 := by omega
  rw [ht] at e2
  generalize v % 32 = r at *
  generalize co / 64 = q at *
  generalize (pl + 1) % 32 = p2 at *
  have HA := Lib.hid hA
  clear hA
  go_enter Try.func69, Try.ntmps69
  go_wp2_with fail
  refine region_drew_tail 9 (by kernel_rfl) (by kernel_rfl) ?_
  simp only [List.take_succ_cons, List.take_zero, List.drop_succ_cons, List.drop_zero]
  repeat (go_big_quiet_step ((fail)))
  refine wpQuiet_nil ?_
  intro _ hw'
  obtain ⟨nq, rfl⟩ := hw'
  go_wp2_with (with_reducible refine wpList_store_cell rfl 5 (.tmp 89) (.tmp 86) rfl rfl c (6 + pl) rfl (.int .u8 (r : Int)) rfl 129 (cz g fr be co ba to ny wv pl lf) (HA.out.drewN nq) (by rw [cz_len]; omega) (by kernel_rfl) rfl rfl ?_)
  intro w2 hA2' hU2'
  have hA2 : At w2 c 129 (cz g fr be co ba to ny (fun i => if i = pl then r else wv i) pl lf) := hA2'.of_eq (cz_set_wave hpl r)
  have hU2 : Upd (· = c) w w2 := ((Upd.refl (· = c) w).drewN nq).trans hU2' fun _ _ h => h
  clear c1 f1 c3
  have c1 := hA2.cell 1 rfl
  have f1 := hA2.frozen 1
  have HA2 := Lib.hid hA2
  clear hA2 hA2' hU2' cw fw
  go_wp2
  go_end0
  exact ⟨rfl, (HA2.out.set 1 _).of_eq (cz_pl rfl), hU2.here _⟩

set_option maxRecDepth 100000 in
set_option maxHeartbeats 2000000 in
theorem QWrite7 (v s : Nat) (l f : Int) (hA : At w c 129 (cz g fr be co ba to ny wv pl lf)) (hN : At w g 172 (rz s l f)) (hv : v < 256) :
    Calls Try.prog 69 #[.pointer (some ⟨c, 0, none⟩), .int .i64 7, .int .u8 (v : Int)] w fun e w' => e = .returned (.tuple #[]) ∧ At w' c 129 (cz g fr be co ba to (decide (128 ≤ v)) wv pl lf) ∧ At w' g 172 (rz s l v) ∧ Upd (fun k => k = c ∨ k = g) w w' := by
  have c38 := hA.cell 38 rfl
  have f38 := hA.frozen 38
  have c39 := hA.cell 39 rfl
  have r2 := hN.cell 2 rfl
  have g2 := hN.frozen 2
  have hne : g ≠ c := hN.ne_ hA (by decide)
  obtain ⟨ny', hny⟩ : ∃ y, y = decide (128 ≤ v) := ⟨_, rfl⟩
  have e2 : decide (128 ≤ (v : Int)) = ny' := by
    rw [hny]
    by_cases h : 128 ≤ v
    · rw [decide_eq_true h, decide_eq_true]; omega
    · rw [decide_eq_false h, decide_eq_false]; omega
  rw [← hny]
  have HA := Lib.hid hA
  have HN := Lib.hid hN
  clear hA hN hny
  go_enter Try.func69, Try.ntmps69
  go_wp2_with (with_reducible refine wpList_store_cell rfl 4 (.tmp 105) (.tmp 103) rfl rfl c 38 rfl (.bool ny') rfl 129 (cz g fr be co ba to ny wv pl lf) HA.out (by rw [cz_len]; omega) (by kernel_rfl) rfl rfl ?_)
  intro w2 hA2' hU2
  have hA2 : At w2 c 129 (cz g fr be co ba to ny' wv pl lf) := hA2'
  have hN2 := HN.out.upd hU2 hne
  clear c38 f38 c39 r2 g2
  have c39 := hA2.cell 39 rfl
  have r2 := hN2.cell 2 rfl
  have g2 := hN2.frozen 2
  have HA2 := Lib.hid hA2
  have HN2 := Lib.hid hN2
  have HU2 := Lib.hid (hU2.mono (S' := fun k => k = c ∨ k = g) fun _ _ h => .inl h)
  clear hA2 hA2' HA hN2 hU2
  go_wp2
  go_end0
  exact ⟨rfl, HA2.out.upd ((Upd.refl (· = g) w2).here _) (fun h => hne h.symm), (HN2.out.set 2 _).of_eq rfl, HU2.out.setCell (.inl (.inr rfl)) _⟩

theorem QWrite_other (reg : Int) (v : Nat) (hr : reg ≠ 2 ∧ reg ≠ 3 ∧ reg ≠ 4 ∧ reg ≠ 5 ∧ reg ≠ 6 ∧ reg ≠ 7) :
    Calls Try.prog 69 #[.pointer (some ⟨c, 0, none⟩), .int .i64 reg, .int .u8 (v : Int)] w fun e w' => e = .returned (.tuple #[]) ∧ w = w' := by
  obtain ⟨r2, r3, r4, r5, r6, r7⟩ := hr
  go_enter Try.func69, Try.ntmps69
  go_wp2
  go_end0
  exact ⟨rfl, rfl⟩
end
end Go.Proofs.Ytgkbpdcedighcac
