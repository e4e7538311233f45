/-
  The walks of wave.Channel: Write, Bend.
-/
import Derived.Test.YtgkbpdcedighcacWave
namespace Go.Proofs.Ytgkbpdcedighcac
open Go.RowKit Go.Sort NoiseP

theorem Write_nil (reg : Int) (v : Nat) (w : World) : Calls Try.prog 43 #[.pointer none, .int .i64 reg, .int .u8 (v : Int)] w fun e w' => e = .returned (.tuple #[]) ∧ w = w' := by
  go_enter Try.func43, Try.ntmps43
  go_wp2_with fail
  refine (is_nil w).mono ?_
  rintro e _ ⟨rfl, rfl⟩
  go_wp2
  (try simp only [Exit.inBlock, Exit.then])
  refine bodyPost_ret (results_none rfl _ _ _) rfl ?_
  exact ⟨rfl, rfl⟩

section
variable (c b fr : Nat) (be : Int) (co ba to : Nat) (ny : Bool) (wv : Nat → Nat) (pl : Nat) (lf : Int) (w : World)

set_option maxRecDepth 100000 in
theorem Write2 (v : Nat) (hA : At w c 138 (wz b fr be co ba to ny wv pl lf)) (hfr : fr < 4096) (hv : v < 256) :
    Calls Try.prog 43 #[.pointer (some ⟨c, 0, none⟩), .int .i64 2, .int .u8 (v : Int)] w fun e w' => e = .returned (.tuple #[]) ∧ At w' c 138 (wz b (fr / 256 * 256 + v) be co ba to ny wv pl lf) ∧ Upd (· = c) w w' := by
  have c1 := hA.cell 1 rfl
  have f1 := hA.frozen 1
  have e1 := i64_not255 fr hfr
  have e2 := i64_or256 (fr / 256) v (by omega) hv
  generalize fr / 256 * 256 + v = n at *
  generalize fr / 256 * 256 = q at *
  have HA := Lib.hid hA
  clear hA
  go_enter Try.func43, Try.ntmps43
  go_wp2_with fail
  refine (is_any c b fr be co ba to ny wv pl lf w HA.out).mono ?_
  rintro e _ ⟨rfl, rfl⟩
  go_wp2
  go_end0
  exact ⟨rfl, HA.out.set 1 _, (Upd.refl _ _).here _⟩

set_option maxRecDepth 100000 in
theorem Write3 (v : Nat) (hA : At w c 138 (wz b fr be co ba to ny wv pl lf)) (hfr : fr < 4096) (hv : v < 256) :
    Calls Try.prog 43 #[.pointer (some ⟨c, 0, none⟩), .int .i64 3, .int .u8 (v : Int)] w fun e w' => e = .returned (.tuple #[]) ∧ At w' c 138 (wz b (v % 16 * 256 + fr % 256) be co ba to ny wv pl lf) ∧ Upd (· = c) w w' := by
  have c1 := hA.cell 1 rfl
  have f1 := hA.frozen 1
  have e1 := i64_and255 fr hfr
  have e2 := u8_and15' v hv
  have e3 : bits .or .i64 (((v % 16 : Nat) : Int) * 256) ((fr % 256 : Nat) : Int) = ((v % 16 * 256 + fr % 256 : Nat) : Int) := by
    have h := i64_or256 (v % 16) (fr % 256) (by omega) (by omega)
    rw [Int.natCast_mul] at h
    exact h
  have hb1 : v % 16 < 16 := by omega
  have hb2 : fr % 256 < 256 := by omega
  generalize v % 16 * 256 + fr % 256 = n at *
  generalize v % 16 = q at *
  generalize fr % 256 = r at *
  have HA := Lib.hid hA
  clear hA
  go_enter Try.func43, Try.ntmps43
  go_wp2_with fail
  refine (is_any c b fr be co ba to ny wv pl lf w HA.out).mono ?_
  rintro e _ ⟨rfl, rfl⟩
  go_wp2
  go_end0
  exact ⟨rfl, HA.out.set 1 _, (Upd.refl _ _).here _⟩

set_option maxRecDepth 100000 in
set_option maxHeartbeats 2000000 in
theorem Write4 (v : Nat) (hA : At w c 138 (wz b fr be co ba to ny wv pl lf)) (hv : v < 256) :
    Calls Try.prog 43 #[.pointer (some ⟨c, 0, none⟩), .int .i64 4, .int .u8 (v : Int)] w fun e w' => e = .returned (.tuple #[]) ∧ At w' c 138 (wz b fr be v ba to ny wv (if v / 64 = 1 then 0 else pl) lf) ∧ Upd (· = c) w w' := by
  have c3 := hA.cell 3 rfl
  have f3 := hA.frozen 3
  have HA := Lib.hid hA
  obtain ⟨q, hq⟩ : ∃ q, q = if v / 64 = 1 then 0 else pl := ⟨_, rfl⟩
  rw [← hq]
  have HQ := Lib.hid hq
  clear hA hq
  go_enter Try.func43, Try.ntmps43
  go_wp2_with fail
  refine (is_any c b fr be co ba to ny wv pl lf w HA.out).mono ?_
  rintro e _ ⟨rfl, rfl⟩
  go_wp2_with (with_reducible refine wpList_store_cell rfl 5 (.tmp 43) (.tmp 41) rfl rfl c 3 rfl (.int .u8 (v : Int)) rfl 138 (wz b fr be co ba to ny wv pl lf) HA.out (by rw [wz_len]; omega) (by kernel_rfl) rfl rfl ?_)
  intro w2 hA2' hU2
  have hA2 : At w2 c 138 (wz b fr be v ba to ny wv pl lf) := hA2'
  have HA2 := Lib.hid hA2
  have c39 := hA2.cell 39 rfl
  have f39 := hA2.frozen 39
  clear hA2 hA2' c3 f3 HA
  go_wp2_with fail
  refine (tells_any c b fr be v ba to ny wv pl lf w2 HA2.out hv).mono ?_
  rintro e _ ⟨rfl, rfl⟩
  by_cases ht : v / 64 % 2 = 1
  · rw [decide_eq_true ht]
    go_wp2_with fail
    refine (On_any c b fr be v ba to ny wv pl lf w2 HA2.out hv).mono ?_
    rintro e _ ⟨rfl, rfl⟩
    by_cases ho : 128 ≤ v
    · rw [decide_eq_true ho]
      have hq : q = pl := by rw [HQ.out, if_neg (by omega)]
      go_wp2
      go_end0
      exact ⟨rfl, hq ▸ HA2.out, hU2⟩
    · rw [decide_eq_false ho]
      have hq : q = 0 := by rw [HQ.out, if_pos (by omega)]
      go_wp2
      go_end0
      exact ⟨rfl, by rw [hq]; exact HA2.out.set 39 _, hU2.here _⟩
  · rw [decide_eq_false ht]
    have hq : q = pl := by rw [HQ.out, if_neg (by omega)]
    go_wp2
    go_end0
    exact ⟨rfl, hq ▸ HA2.out, hU2⟩

set_option maxRecDepth 100000 in
theorem Write5 (v : Nat) (hA : At w c 138 (wz b fr be co ba to ny wv pl lf)) :
    Calls Try.prog 43 #[.pointer (some ⟨c, 0, none⟩), .int .i64 5, .int .u8 (v : Int)] w fun e w' => e = .returned (.tuple #[]) ∧ At w' c 138 (wz b fr be co v to ny wv pl lf) ∧ Upd (· = c) w w' := by
  have c4 := hA.cell 4 rfl
  have f4 := hA.frozen 4
  have HA := Lib.hid hA
  clear hA
  go_enter Try.func43, Try.ntmps43
  go_wp2_with fail
  refine (is_any c b fr be co ba to ny wv pl lf w HA.out).mono ?_
  rintro e _ ⟨rfl, rfl⟩
  go_wp2
  go_end0
  exact ⟨rfl, HA.out.set 4 _, (Upd.refl _ _).here _⟩

set_option maxRecDepth 100000 in
theorem Write6_told (v : Nat) (hA : At w c 138 (wz b fr be co ba to ny wv pl lf)) (hco : co < 256) (hv : v < 256) (ht : co / 64 % 2 = 1) :
    Calls Try.prog 43 #[.pointer (some ⟨c, 0, none⟩), .int .i64 6, .int .u8 (v : Int)] w fun e w' => e = .returned (.tuple #[]) ∧ At w' c 138 (wz b fr be co ba (v % 32) ny wv pl lf) ∧ Upd (· = c) w w' := by
  have e1 := u8_and31' v hv
  have HA := Lib.hid hA
  generalize v % 32 = q at *
  clear hA
  go_enter Try.func43, Try.ntmps43
  go_wp2_with fail
  refine (is_any c b fr be co ba to ny wv pl lf w HA.out).mono ?_
  rintro e _ ⟨rfl, rfl⟩
  go_wp2_with fail
  refine (put_told c b fr be co ba to ny wv pl lf w q HA.out hco ht).mono ?_
  rintro e w2 ⟨rfl, hA2, hU2⟩
  go_wp2
  go_end0
  exact ⟨rfl, hA2, hU2⟩

set_option maxRecDepth 100000 in
theorem Write6_wave (v : Nat) (hA : At w c 138 (wz b fr be co ba to ny wv pl lf)) (hco : co < 256) (hv : v < 256) (ht : co / 64 % 2 = 0) (hpl : pl < 32) :
    Calls Try.prog 43 #[.pointer (some ⟨c, 0, none⟩), .int .i64 6, .int .u8 (v : Int)] w fun e w' => e = .returned (.tuple #[]) ∧ At w' c 138 (wz b fr be co ba to ny (fun i => if i = pl then v % 32 else wv i) ((pl + 1) % 32) lf) ∧ Upd (· = c) w w' := by
  have e1 := u8_and31' v hv
  have HA := Lib.hid hA
  generalize v % 32 = q at *
  clear hA
  go_enter Try.func43, Try.ntmps43
  go_wp2_with fail
  refine (is_any c b fr be co ba to ny wv pl lf w HA.out).mono ?_
  rintro e _ ⟨rfl, rfl⟩
  go_wp2_with fail
  refine (put_wave c b fr be co ba to ny wv pl lf w q HA.out hco ht hpl).mono ?_
  rintro e w2 ⟨rfl, hA2, hU2⟩
  go_wp2
  go_end0
  exact ⟨rfl, hA2, hU2⟩

set_option maxRecDepth 100000 in
set_option maxHeartbeats 2000000 in
theorem Write7 (v s : Nat) (l p : Int) (hA : At w c 138 (wz b fr be co ba to ny wv pl lf)) (hN : At w b 175 (nz s l p)) (hv : v < 256) :
    Calls Try.prog 43 #[.pointer (some ⟨c, 0, none⟩), .int .i64 7, .int .u8 (v : Int)] w fun e w' => e = .returned (.tuple #[]) ∧ At w' c 138 (wz b fr be co ba to (decide (128 ≤ v)) wv pl lf) ∧ At w' b 175 (nz s l (perI v)) ∧ Upd (fun k => k = c ∨ k = b) w w' := by
  have c6 := hA.cell 6 rfl
  have f6 := hA.frozen 6
  have e1 := u8_and128 v hv
  have hne : b ≠ c := hN.ne_ hA (by decide)
  obtain ⟨ny', hny⟩ : ∃ y, y = decide (128 ≤ v) := ⟨_, rfl⟩
  obtain ⟨m, hm⟩ : ∃ m, m = v / 128 * 128 := ⟨_, rfl⟩
  rw [← hm] at e1
  have e2 : ((m : Int) != 0) = ny' := by
    rw [hny, hm]
    by_cases h : 128 ≤ v
    · rw [decide_eq_true h, show v / 128 * 128 = 128 by omega]; rfl
    · rw [decide_eq_false h, show v / 128 * 128 = 0 by omega]; rfl
  rw [← hny]
  have HA := Lib.hid hA
  have HN := Lib.hid hN
  clear hA hN hm hny
  go_enter Try.func43, Try.ntmps43
  go_wp2_with fail
  refine (is_any c b fr be co ba to ny wv pl lf w HA.out).mono ?_
  rintro e _ ⟨rfl, rfl⟩
  go_wp2_with (with_reducible refine wpList_store_cell rfl 4 (.tmp 73) (.tmp 71) rfl rfl c 6 rfl (.bool ny') rfl 138 (wz b fr be co ba to ny wv pl lf) HA.out (by rw [wz_len]; omega) (by kernel_rfl) rfl rfl ?_)
  intro w2 hA2' hU2
  have hA2 : At w2 c 138 (wz b fr be co ba to ny' wv pl lf) := hA2'
  have hN2 := HN.out.upd hU2 hne
  have c0 := hA2.cell 0 rfl
  have HA2 := Lib.hid hA2
  clear hA2 hA2' c6 f6 HA
  go_wp2_with fail
  refine (Set_any b s l p v w2 hN2 (by omega) (by omega)).mono ?_
  rintro e w3 ⟨rfl, hN3, hU3⟩
  go_wp2
  go_end0
  exact ⟨rfl, HA2.out.upd hU3 (fun h => hne h.symm), hN3, (hU2.mono (S' := fun k => k = c ∨ k = b) fun _ _ h => .inl h).trans hU3 fun _ _ h => .inr h⟩

set_option maxRecDepth 100000 in
theorem Write_other (reg : Int) (v : Nat) (hA : At w c 138 (wz b fr be co ba to ny wv pl lf)) (hr : reg ≠ 2 ∧ reg ≠ 3 ∧ reg ≠ 4 ∧ reg ≠ 5 ∧ reg ≠ 6 ∧ reg ≠ 7) :
    Calls Try.prog 43 #[.pointer (some ⟨c, 0, none⟩), .int .i64 reg, .int .u8 (v : Int)] w fun e w' => e = .returned (.tuple #[]) ∧ w = w' := by
  obtain ⟨r2, r3, r4, r5, r6, r7⟩ := hr
  go_enter Try.func43, Try.ntmps43
  go_wp2_with fail
  refine (is_any c b fr be co ba to ny wv pl lf w hA).mono ?_
  rintro e _ ⟨rfl, rfl⟩
  go_wp2
  go_end0
  exact ⟨rfl, rfl⟩

end
end Go.Proofs.Ytgkbpdcedighcac
