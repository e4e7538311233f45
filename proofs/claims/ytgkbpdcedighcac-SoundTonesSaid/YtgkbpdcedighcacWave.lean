/-
  The walks of wave.Channel: New, is, tells, On, put.
-/
import Derived.Test.YtgkbpdcedighcacWaveP
import Derived.Test.YtgkbpdcedighcacNoiseM2
import Derived.Test.YtgkbpdcedighcacRow
namespace Go.Proofs.Ytgkbpdcedighcac
open Go.RowKit Go.Sort NoiseP

/-- A channel's cells. -/
def wz (b fr : Nat) (be : Int) (co ba to : Nat) (ny : Bool) (wv : Nat → Nat) (pl : Nat) (lf : Int) : List Value :=
  .pointer (some ⟨b, 0, none⟩) :: .int .i64 (fr : Int) :: .int .i64 be :: .int .u8 (co : Int) :: .int .u8 (ba : Int) :: .int .u8 (to : Int) :: .bool ny :: (rowF 32 (fun i => Value.int .u8 (wv i : Int)) ++ [.int .i64 (pl : Int), .int .i64 lf])

section
variable {b fr : Nat} {be : Int} {co ba to : Nat} {ny : Bool} {wv : Nat → Nat} {pl : Nat} {lf : Int}
theorem wz_wave {p : Nat} (hp : p < 32) : (wz b fr be co ba to ny wv pl lf)[7 + p]? = some (.int .u8 (wv p : Int)) := by
  unfold wz
  rw [show 7 + p = p + 1 + 1 + 1 + 1 + 1 + 1 + 1 by omega]
  simp only [List.getElem?_cons_succ]
  rw [List.getElem?_append_left (by simp [hp]), rowF_get (f := fun i => Value.int .u8 (wv i : Int)) hp]
theorem wz_place : (wz b fr be co ba to ny wv pl lf)[39]? = some (.int .i64 (pl : Int)) := rfl
theorem wz_left : (wz b fr be co ba to ny wv pl lf)[40]? = some (.int .i64 lf) := rfl
theorem wz_len : (wz b fr be co ba to ny wv pl lf).length = 41 := by simp [wz]
theorem wz_set_wave {p : Nat} (hp : p < 32) (v : Nat) : (wz b fr be co ba to ny wv pl lf).set (7 + p) (.int .u8 (v : Int)) = wz b fr be co ba to ny (fun i => if i = p then v else wv i) pl lf := by
  unfold wz
  rw [show 7 + p = p + 1 + 1 + 1 + 1 + 1 + 1 + 1 by omega]
  simp only [List.set_cons_succ]
  rw [List.set_append_left _ _ (by simp [hp]), rowF_set _ hp]
  congr 9
  funext i
  by_cases h : i = p <;> simp [h]
theorem wz_set_place (v : Nat) : (wz b fr be co ba to ny wv pl lf).set 39 (.int .i64 (v : Int)) = wz b fr be co ba to ny wv v lf := rfl
theorem wz_set_left (v : Int) : (wz b fr be co ba to ny wv pl lf).set 40 (.int .i64 v) = wz b fr be co ba to ny wv pl v := rfl
end

/-- The channel c, its noise b. -/
def WvAt (w : World) (c b fr : Nat) (be : Int) (co ba to : Nat) (ny : Bool) (wv : Nat → Nat) (pl : Nat) (lf : Int) : Prop := At w c 138 (wz b fr be co ba to ny wv pl lf)

theorem wz_zero (b : Nat) : [.pointer (some ⟨b, 0, none⟩), .int .i64 0, .int .i64 0, .int .u8 0, .int .u8 0, .int .u8 0, .bool false, .int .u8 0, .int .u8 0, .int .u8 0, .int .u8 0, .int .u8 0, .int .u8 0, .int .u8 0, .int .u8 0, .int .u8 0, .int .u8 0, .int .u8 0, .int .u8 0, .int .u8 0, .int .u8 0, .int .u8 0, .int .u8 0, .int .u8 0, .int .u8 0, .int .u8 0, .int .u8 0, .int .u8 0, .int .u8 0, .int .u8 0, .int .u8 0, .int .u8 0, .int .u8 0, .int .u8 0, .int .u8 0, .int .u8 0, .int .u8 0, .int .u8 0, .int .u8 0, .int .i64 0, .int .i64 4096] = wz b 0 0 0 0 0 false (fun _ => 0) 0 4096 := rfl

set_option maxRecDepth 100000 in
theorem WNew_any (w : World) : Calls Try.prog 33 #[] w fun e w' => ∃ c b, e = .returned (.pointer (some ⟨c, 0, none⟩)) ∧ w.heap.size ≤ b ∧ b < c ∧ At w' c 138 (wz b 0 0 0 0 0 false (fun _ => 0) 0 4096) ∧ At w' b 175 (nz 1 (perI 0) (perI 0)) ∧ Below w.heap.size w w' := by
  go_enter Try.func33, Try.ntmps33
  go_wp2_with fail
  refine (New_any 0 w (by omega) (by omega)).mono ?_
  rintro e w1 ⟨b, rfl, hb, hA1, hB1⟩
  go_wp2
  refine allocs1 ?_
  intro w2 hA2 hB2 _
  go_ret
  exact ⟨w1.heap.size, b, rfl, hb, hA1.lt, hA2, hA1.below hB2 hA1.lt, step_below hB1 hB2⟩

theorem is_nil (w : World) : Calls Try.prog 85 #[.pointer none] w fun e w' => e = .returned (.bool false) ∧ w = w' := by
  go_enter Try.func85, Try.ntmps85
  go_wp2
  go_ret
  exact ⟨rfl, rfl⟩

section
variable (c b fr : Nat) (be : Int) (co ba to : Nat) (ny : Bool) (wv : Nat → Nat) (pl : Nat) (lf : Int) (w : World)

theorem is_any (hA : At w c 138 (wz b fr be co ba to ny wv pl lf)) : Calls Try.prog 85 #[.pointer (some ⟨c, 0, none⟩)] w fun e w' => e = .returned (.bool true) ∧ w = w' := by
  have c0 := hA.cell 0 rfl
  clear hA
  go_enter Try.func85, Try.ntmps85
  go_wp2
  go_ret
  exact ⟨rfl, rfl⟩

theorem tells_any (hA : At w c 138 (wz b fr be co ba to ny wv pl lf)) (hco : co < 256) : Calls Try.prog 90 #[.pointer (some ⟨c, 0, none⟩)] w fun e w' => e = .returned (.bool (decide (co / 64 % 2 = 1))) ∧ w = w' := by
  have c3 := hA.cell 3 rfl
  have e1 := u8_and64 co hco
  clear hA
  rcases Nat.mod_two_eq_zero_or_one (co / 64) with h | h <;> rw [h] at e1 ⊢
  · go_enter Try.func90, Try.ntmps90
    go_wp2
    go_ret
    exact ⟨rfl, rfl⟩
  · go_enter Try.func90, Try.ntmps90
    go_wp2
    go_ret
    exact ⟨rfl, rfl⟩

theorem On_any (hA : At w c 138 (wz b fr be co ba to ny wv pl lf)) (hco : co < 256) : Calls Try.prog 80 #[.pointer (some ⟨c, 0, none⟩)] w fun e w' => e = .returned (.bool (decide (128 ≤ co))) ∧ w = w' := by
  have c3 := hA.cell 3 rfl
  have e1 := u8_and128 co hco
  have HA := Lib.hid hA
  clear hA
  by_cases h : 128 ≤ co
  · rw [show co / 128 = 1 by omega] at e1
    rw [decide_eq_true h]
    go_enter Try.func80, Try.ntmps80
    go_wp2_with fail
    refine (is_any c b fr be co ba to ny wv pl lf w HA.out).mono ?_
    rintro e _ ⟨rfl, rfl⟩
    go_wp2
    go_ret
    exact ⟨rfl, rfl⟩
  · rw [show co / 128 = 0 by omega] at e1
    rw [decide_eq_false h]
    go_enter Try.func80, Try.ntmps80
    go_wp2_with fail
    refine (is_any c b fr be co ba to ny wv pl lf w HA.out).mono ?_
    rintro e _ ⟨rfl, rfl⟩
    go_wp2
    go_ret
    exact ⟨rfl, rfl⟩

theorem On_nil (w : World) : Calls Try.prog 80 #[.pointer none] w fun e w' => e = .returned (.bool false) ∧ w = w' := by
  go_enter Try.func80, Try.ntmps80
  go_wp2_with fail
  refine (is_nil w).mono ?_
  rintro e _ ⟨rfl, rfl⟩
  go_wp2
  go_ret
  exact ⟨rfl, rfl⟩

set_option maxRecDepth 100000 in
set_option maxHeartbeats 2000000 in
/-- A level is told. -/
theorem put_told (v : Nat) (hA : At w c 138 (wz b fr be co ba to ny wv pl lf)) (hco : co < 256) (ht : co / 64 % 2 = 1) :
    Calls Try.prog 92 #[.pointer (some ⟨c, 0, none⟩), .int .u8 (v : Int)] w fun e w' => e = .returned (.tuple #[]) ∧ At w' c 138 (wz b fr be co ba v ny wv pl lf) ∧ Upd (· = c) w w' := by
  have c5 := hA.cell 5 rfl
  have f5 := hA.frozen 5
  have HA := Lib.hid hA
  clear hA
  go_enter Try.func92, Try.ntmps92
  go_wp2_with fail
  refine (tells_any c b fr be co ba to ny wv pl lf w HA.out hco).mono ?_
  rintro e _ ⟨rfl, rfl⟩
  rw [decide_eq_true ht]
  go_wp2
  (try simp only [Exit.inBlock, Exit.then])
  refine bodyPost_ret (results_none rfl _ _ _) rfl ?_
  exact ⟨rfl, HA.out.set 5 _, (Upd.refl _ _).here _⟩

set_option maxRecDepth 100000 in
set_option maxHeartbeats 2000000 in
/-- A level is laid into the wave. -/
theorem put_wave (v : Nat) (hA : At w c 138 (wz b fr be co ba to ny wv pl lf)) (hco : co < 256) (ht : co / 64 % 2 = 0) (hpl : pl < 32) :
    Calls Try.prog 92 #[.pointer (some ⟨c, 0, none⟩), .int .u8 (v : Int)] w fun e w' => e = .returned (.tuple #[]) ∧ At w' c 138 (wz b fr be co ba to ny (fun i => if i = pl then v else wv i) ((pl + 1) % 32) lf) ∧ Upd (· = c) w w' := by
  have c39' := hA.cell 39 rfl
  have cw := hA.cell (7 + pl) (wz_wave hpl)
  have fw := hA.frozen (7 + pl)
  have f39 := hA.frozen 39
  have e1 : ((pl : Int) + 1).tmod 32 = (((pl + 1) % 32 : Nat) : Int) := by rw [Int.tmod_eq_emod_of_nonneg (by omega)]; omega
  generalize hq : (pl + 1) % 32 = q at e1 ⊢
  have HA := Lib.hid hA
  clear hA hq
  go_enter Try.func92, Try.ntmps92
  go_wp2_with fail
  refine (tells_any c b fr be co ba to ny wv pl lf w HA.out hco).mono ?_
  rintro e _ ⟨rfl, rfl⟩
  rw [show decide (co / 64 % 2 = 1) = false by rw [ht]; rfl]
  go_wp2_with fail
  refine region_drew_tail 9 (by kernel_rfl) (by kernel_rfl) ?_
  simp only [List.take_succ_cons, List.take_zero, List.drop_succ_cons, List.drop_zero]
  repeat (go_big_quiet_step ((fail)))
  refine wpQuiet_nil ?_
  intro _ hw'
  obtain ⟨nq, rfl⟩ := hw'
  go_wp2_with (with_reducible refine wpList_store_cell rfl 5 (.tmp 18) (.tmp 15) rfl rfl c (7 + pl) rfl (.int .u8 (v : Int)) rfl 138 (wz b fr be co ba to ny wv pl lf) (HA.out.drewN nq) (by rw [wz_len]; omega) (by kernel_rfl) rfl rfl ?_)
  intro w2 hA2' hU2'
  have hA2 : At w2 c 138 (wz b fr be co ba to ny (fun i => if i = pl then v else wv i) pl lf) := hA2'.of_eq (wz_set_wave hpl v)
  have hU2 : Upd (· = c) w w2 := ((Upd.refl (· = c) w).drewN nq).trans hU2' fun _ _ h => h
  have c39 := hA2.cell 39 rfl
  have f39 := hA2.frozen 39
  have HA2 := Lib.hid hA2
  clear hA2 hA2' hU2' cw fw
  go_wp2
  go_end0
  exact ⟨rfl, HA2.out.set 39 _, hU2.here _⟩
end
end Go.Proofs.Ytgkbpdcedighcac
