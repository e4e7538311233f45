/-
  The walk of the law TurnsWave.
-/
import Derived.Test.YtgkbpdcedighcabTurnL
import Derived.Test.YtgkbpdcedighcabBinQ
import Derived.Test.YtgkbpdcedighcabOpenA
namespace Go.Proofs.Ytgkbpdcedighcab
open Go.RowKit Go.Sort

set_option maxRecDepth 100000 in
theorem TurnsWave_0_arg {H : Type} {enc : TypeId × Value → H} {w : World} {base : Nat} {spare : Nat → Bool} {held : Bool} {r : Reach} {b0 : Nat} {v : Value} {d : DataW H} {p : List MemPlace}
    (hv : Value.okWide Try.prog w r b0 34 v) (h : DataW.Trod enc Try.prog w base spare held 34 v d p) : ∃ f : Nat → Int, v = .agg (rowF 32 fun i => .int .u8 (f i)).toArray ∧ ∀ i, i < 32 → (Lit.int .u8 (f i)).wf = true :=
  arr_arg Try.underlying34 Try.underlying5 (by kernel_rfl) (by kernel_rfl) hv h

theorem wrongZ_small {z : Nat → Int} {n : Nat} (hn : n ≤ 4096) (h : ∀ i, i < n → -262144 ≤ z i ∧ z i ≤ 262144) : wrongZ z n = 0 := by
  refine wrongZ_ok (by omega) ?_
  induction n with
  | zero => rfl
  | succ n ih =>
    rw [badB, ih (by omega) fun i hi => h i (by omega)]
    have := h n (by omega)
    simp [beyB]; omega

set_option maxRecDepth 100000 in
set_option maxHeartbeats 4000000 in
theorem TurnsWave_walk (w : World) (f : Nat → Int) (hf : ∀ i, i < 32 → (Lit.int .u8 (f i)).wf = true) :
    Calls Try.prog 5 #[.agg (rowF 32 fun i => .int .u8 (f i)).toArray] w fun e w' => e = .returned (.bool true) ∧ Below w.heap.size w w' := by
  obtain ⟨l, hl⟩ : ∃ l : Nat → Nat, ∀ i, i < 32 → f i = (l i : Int) ∧ l i < 256 := ⟨fun i => (f i).toNat, fun i hi => by have := wf_bounds_u8 (hf i hi); show f i = ((f i).toNat : Int) ∧ (f i).toNat < 256; omega⟩
  rw [show rowF 32 (fun i => Value.int .u8 (f i)) = rowF 32 fun i => Value.int .u8 (l i : Int) from rowF_ext fun i hi => by rw [(hl i hi).1]]
  have HL : Hid (∀ i, i < 32 → l i < 256) := Lib.hid fun i hi => (hl i hi).2
  obtain ⟨i0, hi, hz0, hz1, hz2⟩ := info_parts infoInt
  have HI := Lib.hid (And.intro hi (And.intro hz0 (And.intro hz1 hz2)))
  clear hf hl hi hz0 hz1 hz2
  go_enter Try.func5, Try.ntmps5
  go_wp2_with fail
  refine allocs1 (F := fun w => Calls _ _ _ w _) ?_
  intro w1 hA1 hB1 _
  replace hA1 : At w1 w.heap.size 34 (rowF 32 fun i => .int .u8 (l i : Int)) := hA1
  refine (live17_any w1).mono ?_
  rintro e w2 ⟨rfl, hb2⟩
  have HA2 := Lib.hid (hA1.below hb2 hA1.lt)
  have HB2 := Lib.hid (step_below hB1 hb2)
  clear hA1 hB1 hb2
  go_wp2_with fail
  go_loopw [3, 4] (fun v i wr => ∃ k : Nat, k ≤ 32 ∧ i = .int .i64 k ∧ Hid (wr.ownsRow (w.heap.size + 1) 3 1 v k ((List.range k).map fun i => .int .i64 (waveZ l i))) ∧ Hid (At wr w.heap.size 34 (rowF 32 fun i => .int .u8 (l i : Int))) ∧ Hid (Below w.heap.size w wr)) (fun _ i _ => 32 - (intOf i).toNat)
  case atStart => exact ⟨0, by omega, rfl, Lib.hid (own_nil _ _ _ _), HA2, HB2⟩
  case round =>
    clear HA2 HB2
    obtain ⟨k, hk, rfl, HO, HA, HB⟩ := hrel
    have hne : u3.ownBlock ≠ some w.heap.size := own_ne HO.out HA.out (by decide)
    have hsz : w.heap.size + 1 ≤ wr.heap.size := HA.out.lt
    by_cases hlt : k < 32
    · have hck := HA.out.cell k (rowF_get (f := fun i => Value.int .u8 (l i : Int)) hlt)
      have HZ : Hid (waveZ l k = 2 * ((l k % 32 : Nat) : Int) - 31) := Lib.hid rfl
      have hr : l k % 32 < 32 := Nat.mod_lt _ (by omega)
      have e1 : (l k : Int).tmod 32 = ((l k % 32 : Nat) : Int) := by rw [Int.tmod_eq_emod_of_nonneg (by omega)]; rfl
      generalize l k % 32 = r at *
      obtain ⟨hi, hz0, hz1, hz2⟩ := HI.out
      have hO := HO.out
      go_wp2_with (at_builtin; refine wpList_append_own _ rfl _ _ 31 rfl (w.heap.size + 1) 3 i0 (.int .i64 0) 1 8 Try.underlying31 hi hz0 hz1 hz2 rfl (by decide) _ _ _ rfl (hO.alloc _) ⟨wr.heap.size, 0, none⟩ 1 1 [.int .i64 (2 * (r : Int) - 31)] rfl rfl (cell_one_new _ _ _) (by intro u hu; simp at hu; subst hu; rfl) (by unfold maxLen; omega) (by omega) (by simp; omega) ?_)
      intro v' w6 hO6 hg6 _
      rw [← HZ.out] at hO6
      have HO6 := Lib.hid (own_snoc (n := k) (f := fun i => .int .i64 (waveZ l i)) hO6)
      have hB5 : Below w.heap.size w (wr.alloc (.cells #[.int .i64 (2 * (r : Int) - 31)] 3)) := HB.out.alloc HB.out.size _
      have HB6 := Lib.hid (hB5.grown hg6 (by simp; omega) (fun b hb => by have := (HO.out.lt b hb).1; omega))
      have HA6 := Lib.hid ((HA.out.alloc _).grown hg6 hne)
      clear hO6 hg6 hB5 hi hz0 hz1 hz2 hO hck e1
      go_wp2
      go_round
      case rel => exact ⟨k + 1, by omega, by go_num, HO6, HA6, HB6⟩
      case measure => simp [intOf]; omega
    · obtain rfl : k = 32 := by omega
      obtain ⟨a, cap, rfl, hints⟩ := ints_own HO.out
      have hwz := wrongZ_small (z := waveZ l) (n := 32) (by omega) (fun i _ => by have := waveZ_bd l i; omega)
      have hfl := fun j => foldZ_le (waveZ l) 31 j (by omega) 32 fun i _ => waveZ_bd l i
      have hfr : foldR (waveZ l) 32 = foldZ (waveZ l) 32 := by funext j; rw [foldR, if_pos hwz]
      go_wp2_with fail
      refine (RFold_any a 32 cap (waveZ l) wr hints (by omega)).mono ?_
      rintro e w2 ⟨rfl, hb2⟩
      rw [hwz, hfr, show rowI 4 (foldZ (waveZ l) 32) = [.int .i64 (foldZ (waveZ l) 32 0), .int .i64 (foldZ (waveZ l) 32 1), .int .i64 (foldZ (waveZ l) 32 2), .int .i64 (foldZ (waveZ l) 32 3)] from rfl]
      have hA2 := HA.out.below hb2 HA.out.lt
      have hB2 := step_below HB.out hb2
      have HFL := Lib.hid hfl
      clear hb2 HA HB hints HO hwz hfl hfr
      go_wp2_with fail
      refine allocs1 ?_
      intro w3 hA4 hb3 _
      have HA3 := Lib.hid (hA2.below hb3 hA2.lt)
      have HB3 := Lib.hid (step_below hB2 hb3)
      replace hA4 : At w3 w2.heap.size 24 (rowI 4 (foldZ (waveZ l) 32)) := hA4
      have HA4 := Lib.hid hA4
      clear hA4 hA2 hB2 hb3
      have HE : Hid (rowI 8 (binF (foldZ (waveZ l) 32)) = rowI 8 (pI fun k => binZ (waveZ l) k 32)) := Lib.hid (by unfold rowI; exact rowF_ext fun i hi => by rw [binF_fold _ _ i hi])
      have hq : ∀ w, (binOp .eql 23 (.agg (rowI 8 (pI fun k => binZ (waveZ l) k 32)).toArray) (.agg (rowI 8 (pI fun k => binZ (waveZ l) k 32)).toArray)).run Try.prog w = .ok (.bool true) w := fun w => by
        have h := (eql8 (pI fun k => binZ (waveZ l) k 32) (pI fun k => binZ (waveZ l) k 32)).1 w
        rw [eqB_same (fun _ _ => rfl)] at h
        exact h
      refine wp_region_quiet_below (by kernel_rfl) (by kernel_rfl) ?_
      refine BigFrame.wpQuiet_want rfl fun K hK => ?_
      refine quiet_load_row 34 _ rfl w.heap.size rfl 34 (rowF 32 fun i => .int .u8 (l i : Int)) _ (fun w' hw' => HA3.out.below (below_of_regrown hw') HA3.out.lt) Try.underlying34 rfl (by kernel_rfl) (hK _ ?_)
      clear hK K
      (conv => arg 6; whnf)
      simp only [List.setIfInBounds_toArray, List.set_cons_succ, List.set_cons_zero]
      go_big_quiet_step ((go_at_call 20; exact Calls.regrown_of (Wave_any l _ HL.out)))
      refine BigFrame.wpQuiet_want rfl fun K hK => ?_
      refine quiet_load_row 24 _ rfl w2.heap.size rfl 24 (rowI 4 (foldZ (waveZ l) 32)) _ (fun w' hw' => HA4.out.below (below_of_regrown hw') HA4.out.lt) Try.underlying24 rfl (by kernel_rfl) (hK _ ?_)
      clear hK K
      (conv => arg 6; whnf)
      simp only [List.setIfInBounds_toArray, List.set_cons_succ, List.set_cons_zero]
      go_big_quiet_step ((go_at_call 21; exact Calls.regrown_of (Bins_any (foldZ (waveZ l) 32) _ (fun i _ => by have := HFL.out i; omega))))
      rw [HE.out]
      repeat (go_big_quiet_step (fail))
      refine wpQuiet_nil ?_
      intro w5 hw'
      have hb5 := below_of_regrown hw'
      clear hw'
      go_wp2
      go_ret
      exact ⟨rfl, step_below HB3.out hb5⟩
end Go.Proofs.Ytgkbpdcedighcab
