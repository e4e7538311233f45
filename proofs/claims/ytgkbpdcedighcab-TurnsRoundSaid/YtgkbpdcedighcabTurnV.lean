/-
  The walk of turns.Wave.
-/
import Derived.Test.YtgkbpdcedighcabTurnG
import Derived.Test.YtgkbpdcedighcabAppend
import Derived.OwnWalk
import Derived.WalkSpells
namespace Go.Proofs.Ytgkbpdcedighcab
open Go.RowKit Go.Sort

theorem infoInt : (Try.prog.info? 3).map (fun i => (i.zero, i.size, i.bytes)) = some (some (.int .i64 0), 1, 8) := by kernel_rfl

theorem u8_and31 (n : Nat) (hn : n < 256) : bits .and .u8 (n : Int) 31 = ((n % 32 : Nat) : Int) := by
  have : ∀ n : Fin 256, bits .and .u8 ((n.val : Nat) : Int) 31 = ((n.val % 32 : Nat) : Int) := by decide +kernel
  exact this ⟨n, hn⟩

def waveZ (l : Nat → Nat) (i : Nat) : Int := 2 * ((l i % 32 : Nat) : Int) - 31
theorem waveZ_bd (l : Nat → Nat) (i : Nat) : -31 ≤ waveZ l i ∧ waveZ l i ≤ 31 := by unfold waveZ; omega

/-- A row of the call's own as a slice of integers. -/
theorem ints_own {w : World} {base : Nat} {v : Value} {n : Nat} {z : Nat → Int} (h : w.ownsRow base 3 1 v n ((List.range n).map fun i => .int .i64 (z i))) : ∃ a cap, v = .slice a n cap ∧ IntsAt w a n z := by
  obtain ⟨a, cap, rfl, _, _⟩ := own_form h
  refine ⟨a, cap, rfl, fun i hi => ?_⟩
  obtain ⟨b, cap', he, _, _, hb, hc⟩ := own_cell (f := fun i => .int .i64 (z i)) h hi
  injection he with he _ _
  exact ⟨b, 0, he, hb, by rw [Nat.zero_add]; exact hc⟩

set_option maxRecDepth 100000 in
set_option maxHeartbeats 4000000 in
theorem Wave_any (l : Nat → Nat) (w : World) (hl : ∀ i, i < 32 → l i < 256) :
    Calls Try.prog 20 #[.agg (rowF 32 fun i => .int .u8 (l i : Int)).toArray] w fun e w' => e = .returned (.agg (rowI 8 (pI fun k => binZ (waveZ l) k 32)).toArray) ∧ Below w.heap.size w w' := by
  obtain ⟨i0, hi, hz0, hz1, hz2⟩ := info_parts infoInt
  have HI := Lib.hid (And.intro hi (And.intro hz0 (And.intro hz1 hz2)))
  have HL := Lib.hid hl
  clear hl hi hz0 hz1 hz2
  go_enter Try.func20, Try.ntmps20
  go_wp2_with (with_reducible refine wpList_load_at rfl 34 (.tmp 1) rfl w.heap.size (by kernel_rfl) 34 (rowF 32 fun i => .int .u8 (l i : Int)) (((At.new w (rowF 32 fun i => .int .u8 (l i : Int)).toArray 34).alloc _).of_eq (by simp)) _ Try.underlying34 rfl (by kernel_rfl) ?_)
  refine allocs2 ?_
  intro w1 _ hA1 hB1 _
  replace hA1 : At w1 (w.heap.size + 1) 23 (rowI 8 fun _ => 0) := hA1
  have HA1 := Lib.hid hA1
  have HB1 := Lib.hid hB1
  clear hA1 hB1
  go_loopw [3, 7] (fun v i wr => ∃ k : Nat, k ≤ 32 ∧ i = .int .i64 k ∧ Hid (wr.ownsRow w.heap.size 3 1 v k ((List.range k).map fun i => .int .i64 (waveZ l i))) ∧ Hid (At wr (w.heap.size + 1) 23 (rowI 8 fun _ => 0)) ∧ Hid (Below w.heap.size w wr)) (fun _ i _ => 32 - (intOf i).toNat)
  case atStart => exact ⟨0, by omega, rfl, Lib.hid (own_nil _ _ _ _), HA1, HB1⟩
  case round =>
    clear HA1 HB1
    obtain ⟨k, hk, rfl, HO, HA, HB⟩ := hrel
    have hne : u3.ownBlock ≠ some (w.heap.size + 1) := own_ne HO.out HA.out (by decide)
    by_cases hlt : k < 32
    · have hidx := fun w => index_one (P := Try.prog) 34 5 32 (rowF 32 fun i => .int .u8 (l i : Int)).toArray .i64 (k : Int) _ 1 (.int .u8 (l k : Int)) rfl rfl rfl (by kernel_rfl) rfl (by omega) (by simp [rowF_get (f := fun i => Value.int .u8 (l i : Int)) hlt]) w
      have e1 := u8_and31 (l k) (HL.out k hlt)
      have HZ : Hid (waveZ l k = 2 * ((l k % 32 : Nat) : Int) - 31) := Lib.hid rfl
      have hr : l k % 32 < 32 := Nat.mod_lt _ (by omega)
      generalize l k % 32 = r at *
      obtain ⟨hi, hz0, hz1, hz2⟩ := HI.out
      have hO := HO.out
      go_wp2_with (at_builtin; refine wpList_append_own _ rfl _ _ 31 rfl w.heap.size 3 i0 (.int .i64 0) 1 8 Try.underlying31 hi hz0 hz1 hz2 rfl (by decide) _ _ _ rfl (hO.alloc _) ⟨wr.heap.size, 0, none⟩ 1 1 [.int .i64 (2 * (r : Int) - 31)] rfl rfl (cell_one_new _ _ _) (by intro u hu; simp at hu; subst hu; rfl) (by unfold maxLen; omega) (by omega) (by have := HB.out.size; simp; omega) ?_)
      intro v' w6 hO6 hg6 _
      rw [← HZ.out] at hO6
      have HO6 := Lib.hid (own_snoc (n := k) (f := fun i => .int .i64 (waveZ l i)) hO6)
      have hB5 : Below w.heap.size w (wr.alloc (.cells #[.int .i64 (2 * (r : Int) - 31)] 3)) := HB.out.alloc HB.out.size _
      have HB6 := Lib.hid (hB5.grown hg6 (by have := HB.out.size; simp; omega) (fun b hb => (HO.out.lt b hb).1))
      have HA6 := Lib.hid ((HA.out.alloc _).grown hg6 hne)
      clear hO6 hg6 hB5 hi hz0 hz1 hz2 hO hidx e1
      go_wp2
      go_round
      case rel => exact ⟨k + 1, by omega, by go_num, HO6, HA6, HB6⟩
      case measure => simp [intOf]; omega
    · obtain rfl : k = 32 := by omega
      obtain ⟨a, cap, rfl, hints⟩ := ints_own HO.out
      go_wp2_with fail
      refine (tof_any a 32 cap (waveZ l) wr hints (by omega) (fun i _ => by have := waveZ_bd l i; omega)).mono ?_
      rintro e w2 ⟨⟨vs, rfl, hvs⟩, hb2⟩
      have HA2 := Lib.hid (HA.out.below hb2 HA.out.lt)
      have HB2 := Lib.hid (step_below HB.out hb2)
      clear hb2 HA HB hints
      go_wp2_with fail
      refine (parts_any vs (fun k => binZ (waveZ l) k 32) w2 hvs (fun k _ => by have := binZ_le (waveZ l) k 31 32 (fun i _ => waveZ_bd l i); omega)).mono ?_
      rintro e w3 ⟨rfl, hb3⟩
      have hA3 := HA2.out.below hb3 HA2.out.lt
      have hB3 := step_below HB2.out hb3
      clear hb3 HA2 HB2 hvs
      go_wp2_with (with_reducible refine wpList_store_row rfl 23 (.tmp 2) (.tmp 21) rfl rfl (w.heap.size + 1) (by kernel_rfl) (rowI 8 (pI fun k => binZ (waveZ l) k 32)) (by kernel_rfl) 23 (rowI 8 fun _ => 0) hA3 (by kernel_rfl) (by kernel_rfl) (rowI_one _ _) ?_)
      intro w5 hA5 hU5
      have h5 : Below w.heap.size w w5 := step_upd hB3 hU5 (by omega)
      clear hU5
      go_wp2
      (try simp only [Exit.inBlock, Exit.then])
      refine bodyPost_ret (results_cell_at rfl _ _ (w.heap.size + 1) 23 _ hA5 _ (by kernel_rfl) Try.underlying23 rfl (by kernel_rfl)) rfl ?_
      exact ⟨rfl, h5⟩
end Go.Proofs.Ytgkbpdcedighcab
