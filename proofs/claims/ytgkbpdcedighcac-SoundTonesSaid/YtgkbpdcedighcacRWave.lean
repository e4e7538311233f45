/-
  The walks of the reference 14: the Channel (New, Hold, Period, Level, Copy).
-/
import Derived.Test.YtgkbpdcedighcacWaveG
import Derived.Test.YtgkbpdcedighcacNoiseW2
import Derived.Test.YtgkbpdcedighcacRow
namespace Go.Proofs.Ytgkbpdcedighcac
open Go.RowKit Go.Sort NoiseP

/-- The cells of the reference's channel. -/
def cz (g fr : Nat) (be : Int) (co ba to : Nat) (ny : Bool) (wv : Nat → Nat) (pl : Nat) (lf : Int) : List Value :=
  .int .i64 (fr : Int) :: .int .i64 (pl : Int) :: .int .i64 be :: .int .u8 (co : Int) :: .int .u8 (ba : Int) :: .int .u8 (to : Int) :: (rowF 32 (fun i => Value.int .u8 (wv i : Int)) ++ [.bool ny, .pointer (some ⟨g, 0, none⟩), .int .i64 lf])

section
variable {g fr : Nat} {be : Int} {co ba to : Nat} {ny : Bool} {wv : Nat → Nat} {pl : Nat} {lf : Int}
theorem cz_wave {p : Nat} (hp : p < 32) : (cz g fr be co ba to ny wv pl lf)[6 + p]? = some (.int .u8 (wv p : Int)) := by
  unfold cz
  rw [show 6 + p = p + 1 + 1 + 1 + 1 + 1 + 1 by omega]
  simp only [List.getElem?_cons_succ]
  rw [List.getElem?_append_left (by simp [hp]), rowF_get (f := fun i => Value.int .u8 (wv i : Int)) hp]
theorem cz_len : (cz g fr be co ba to ny wv pl lf).length = 41 := by simp [cz]
theorem cz_set_wave {p : Nat} (hp : p < 32) (v : Nat) : (cz g fr be co ba to ny wv pl lf).set (6 + p) (.int .u8 (v : Int)) = cz g fr be co ba to ny (fun i => if i = p then v else wv i) pl lf := by
  unfold cz
  rw [show 6 + p = p + 1 + 1 + 1 + 1 + 1 + 1 by omega]
  simp only [List.set_cons_succ]
  rw [List.set_append_left _ _ (by simp [hp]), rowF_set _ hp]
  congr 8
  funext i
  by_cases h : i = p <;> simp [h]
end

set_option maxRecDepth 100000 in
theorem QNew_any (w : World) : Calls Try.prog 34 #[] w fun e w' => ∃ c g, e = .returned (.pointer (some ⟨c, 0, none⟩)) ∧ w.heap.size ≤ g ∧ g < c ∧ At w' c 129 (cz g 0 0 0 0 0 false (fun _ => 0) 0 4096) ∧ At w' g 172 (rz 1 (perI 0) 0) ∧ Below w.heap.size w w' := by
  go_enter Try.func34, Try.ntmps34
  go_wp2_with fail
  refine (RNew_any 0 w (by omega) (by omega)).mono ?_
  rintro e w1 ⟨b, rfl, hb, hA1, hB1⟩
  go_wp2
  refine allocs1 ?_
  intro w2 hA2 hB2 _
  go_ret
  exact ⟨w1.heap.size, b, rfl, hb, hA1.lt, hA2, hA1.below hB2 hA1.lt, step_below hB1 hB2⟩

theorem Hold_any (d : Int) (w : World) : Calls Try.prog 84 #[.int .i64 d] w fun e w' => e = .returned (.int .i64 (holdW d)) ∧ w = w' := by
  have HH : Hid (holdW d = if d < -4096 then -4096 else if 4096 < d then 4096 else d) := Lib.hid rfl
  go_enter Try.func84, Try.ntmps84
  go_wp2
  all_goals (
    go_ret
    refine ⟨?_, rfl⟩
    rw [HH.out]
    split
    all_goals first | rfl | omega | (split <;> first | rfl | omega))

section
variable (c g fr : Nat) (be : Int) (co ba to : Nat) (ny : Bool) (wv : Nat → Nat) (pl : Nat) (lf : Int) (w : World)

set_option maxRecDepth 100000 in
theorem QPeriod_any (hA : At w c 129 (cz g fr be co ba to ny wv pl lf)) (hfr : fr < 4096) (hbe : -4096 ≤ be ∧ be ≤ 4096) :
    Calls Try.prog 88 #[.pointer (some ⟨c, 0, none⟩)] w fun e w' => e = .returned (.int .i64 (perW fr be)) ∧ ∃ n, w' = w.drewN n := by
  have c0 := hA.cell 0 rfl
  have c2 := hA.cell 2 rfl
  have e1 : ((fr : Int) + be + 8192).tmod 4096 = ((fr : Int) + be) % 4096 := by rw [Int.tmod_eq_emod_of_nonneg (by omega)]; omega
  have HP : Hid (perW fr be = if ((fr : Int) + be) % 4096 = 0 then 4096 else ((fr : Int) + be) % 4096) := Lib.hid rfl
  have hr : 0 ≤ ((fr : Int) + be) % 4096 ∧ ((fr : Int) + be) % 4096 < 4096 := by omega
  have HA := Lib.hid hA
  clear hA
  generalize hm : ((fr : Int) + be) % 4096 = m at *
  clear hm
  by_cases h0 : m = 0
  · subst h0
    go_enter Try.func88, Try.ntmps88
    go_wp2_with fail
    refine wp_region_quiet_lit (by kernel_rfl) (by kernel_rfl) ?_
    repeat (go_big_quiet_step ((fail)))
    refine wpQuiet_nil ?_
    intro _ hw'
    obtain ⟨nq, rfl⟩ := hw'
    go_wp2
    go_ret
    exact ⟨by rw [HP.out]; rfl, nq, rfl⟩
  · go_enter Try.func88, Try.ntmps88
    go_wp2_with fail
    refine wp_region_quiet_lit (by kernel_rfl) (by kernel_rfl) ?_
    repeat (go_big_quiet_step ((fail)))
    refine wpQuiet_nil ?_
    intro _ hw'
    obtain ⟨nq, rfl⟩ := hw'
    go_wp2
    go_ret
    exact ⟨by rw [HP.out, if_neg h0]; rfl, nq, rfl⟩

set_option maxRecDepth 100000 in
set_option maxHeartbeats 2000000 in
theorem QLevel_any (s : Nat) (l f : Int) (hA : At w c 129 (cz g fr be co ba to ny wv pl lf)) (hN : At w g 172 (rz s l f)) (hco : co < 256) (hs : s < 4294967296) (hpl : pl < 32) :
    Calls Try.prog 73 #[.pointer (some ⟨c, 0, none⟩)] w fun e w' => e = .returned (.int .u8 (lvW co to ny wv pl s)) ∧ ∃ n, w' = w.drewN n := by
  have c1 := hA.cell 1 rfl
  have c3 := hA.cell 3 rfl
  have c5 := hA.cell 5 rfl
  have c38 := hA.cell 38 rfl
  have c39 := hA.cell 39 rfl
  have cw := hA.cell (6 + pl) (cz_wave hpl)
  have e1 : (co : Int).tdiv 64 = ((co / 64 : Nat) : Int) := by rw [Int.tdiv_eq_ediv_of_nonneg (by omega)]; rfl
  have HA := Lib.hid hA
  have HN := Lib.hid hN
  clear hA hN
  have HV : Hid (lvW co to ny wv pl s = if co < 128 then 0 else if co / 64 = 3 then (to : Int) else if ny then levN s else (wv pl : Int)) := Lib.hid rfl
  by_cases ho : 128 ≤ co
  · have d1 : decide ((co : Int) < 128) = false := by rw [decide_eq_false_iff_not]; omega
    by_cases ht : co / 64 = 3
    · have HV2 : Hid (lvW co to ny wv pl s = to) := Lib.hid (by rw [HV.out, if_neg (by omega), if_pos ht])
      rw [ht] at e1
      go_enter Try.func73, Try.ntmps73
      go_wp2
      go_ret
      exact ⟨by rw [HV2.out]; rfl, 0, rfl⟩
    · have ht2 : co / 64 = 2 := by omega
      rw [ht2] at e1
      cases ny
      · have HV2 : Hid (lvW co to false wv pl s = wv pl) := Lib.hid (by rw [HV.out, if_neg (by omega), if_neg ht]; rfl)
        go_enter Try.func73, Try.ntmps73
        go_wp2_with fail
        refine wp_region_quiet_lit (by kernel_rfl) (by kernel_rfl) ?_
        repeat (go_big_quiet_step ((fail)))
        refine wpQuiet_nil ?_
        intro _ hw'
        obtain ⟨nq, rfl⟩ := hw'
        go_wp2
        go_ret
        exact ⟨by rw [HV2.out]; rfl, nq, rfl⟩
      · have HV2 : Hid (lvW co to true wv pl s = levN s) := Lib.hid (by rw [HV.out, if_neg (by omega), if_neg ht]; rfl)
        go_enter Try.func73, Try.ntmps73
        go_wp2_with fail
        refine (RLevel_any g s l f w HN.out hs).mono ?_
        rintro e _ ⟨rfl, rfl⟩
        go_wp2
        go_ret
        exact ⟨by rw [HV2.out]; rfl, 0, rfl⟩
  · have d1 : decide ((co : Int) < 128) = true := by rw [decide_eq_true_eq]; omega
    have HV2 : Hid (lvW co to ny wv pl s = 0) := Lib.hid (by rw [HV.out, if_pos (by omega)])
    go_enter Try.func73, Try.ntmps73
    go_wp2
    go_ret
    exact ⟨by rw [HV2.out]; rfl, 0, rfl⟩
end
end Go.Proofs.Ytgkbpdcedighcac
