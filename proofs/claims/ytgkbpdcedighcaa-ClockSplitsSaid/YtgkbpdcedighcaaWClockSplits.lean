/-
  The walk of the law ClockSplits.
-/
import Derived.Test.YtgkbpdcedighcaaClockS
import Derived.Test.YtgkbpdcedighcaaAppend
namespace Go.Proofs.Ytgkbpdcedighcaa
open Go.RowKit Go.Sort

theorem infoBool : (Try.prog.info? 4).map (fun i => (i.zero, i.size, i.bytes)) = some (some (.bool false), 1, 1) := by kernel_rfl

def glue (za zb : Nat → Bool) (n i : Nat) : Bool := if i < n then za i else zb (i - n)

theorem tm_congr (now : Int) (fast : Bool) (z z' : Nat → Bool) (k : Nat) (h : ∀ i, i < k → z i = z' i) : tm now fast z k = tm now fast z' k := by
  induction k with
  | zero => rfl
  | succ k ih => simp only [tm]; rw [ih fun i hi => h i (by omega), h k (by omega)]
theorem tm_glue_lo (now : Int) (fast : Bool) (za zb : Nat → Bool) (n i : Nat) (h : i ≤ n) : tm now fast (glue za zb n) i = tm now fast za i :=
  tm_congr _ _ _ _ _ fun j hj => by unfold glue; rw [if_pos (by omega)]
theorem tm_glue_hi (now : Int) (fast : Bool) (za zb : Nat → Bool) (n j : Nat) : tm now fast (glue za zb n) (n + j) = tm (tm now fast za n) fast zb j := by
  induction j with
  | zero => simp only [Nat.add_zero, tm]; exact tm_glue_lo _ _ _ _ _ _ (Nat.le_refl _)
  | succ j ih =>
    rw [← Nat.add_assoc]
    simp only [tm]
    rw [ih]
    congr 2
    unfold glue
    rw [if_neg (by omega)]
    congr 1
    omega
set_option maxRecDepth 100000 in
set_option maxHeartbeats 2000000 in
theorem ClockSplits_walk (w : World) (now : Int) (wn : (Lit.int .u32 now).wf = true) (fast : Bool) (a2 : Option Addr) (len2 cap2 : Nat) (F2 : Nat → List Value) (s2 : SlR w a2 len2 cap2 1 IsBool F2)
    (a3 : Option Addr) (len3 cap3 : Nat) (F3 : Nat → List Value) (s3 : SlR w a3 len3 cap3 1 IsBool F3) :
    Calls Try.prog 6 #[.int .u32 now, .bool fast, .slice a2 len2 cap2, .slice a3 len3 cap3] w fun e w' => e = .returned (.bool true) ∧ Below w.heap.size w w' := by
  have hn := wf_bounds_u32 wn
  obtain ⟨z, hz⟩ := s2.bools
  obtain ⟨y, hy⟩ := s3.bools
  have HZ := Lib.hid hz
  have HY := Lib.hid hy
  have HN2 := Lib.hid s2.nil
  have HN3 := Lib.hid s3.nil
  have hm2 := s2.max
  have hle2 := s2.le
  have hm3 := s3.max
  have hle3 := s3.le
  unfold maxLen at hm2 hm3
  clear s2 s3 hz hy wn
  by_cases hlong : 200 < len2
  · go_enter Try.func6, Try.ntmps6
    go_wp2_with fail
    refine (live02_any _).mono ?_
    rintro e w1 ⟨rfl, hB1⟩
    go_wp2
    go_ret
    exact ⟨rfl, hB1⟩
  by_cases hlong3 : 200 < len3
  · go_enter Try.func6, Try.ntmps6
    go_wp2_with fail
    refine (live02_any _).mono ?_
    rintro e w1 ⟨rfl, hB1⟩
    go_wp2
    go_ret
    exact ⟨rfl, hB1⟩
  obtain ⟨i0, hi, hz0, hz1, hz2⟩ := info_parts infoBool
  have HI := Lib.hid (And.intro hi (And.intro hz0 (And.intro hz1 hz2)))
  clear hi hz0 hz1 hz2
  have htm := tm_bd now fast z len2
  go_enter Try.func6, Try.ntmps6
  go_wp2_with fail
  refine (live02_any _).mono ?_
  rintro e w1 ⟨rfl, hB1⟩
  have HB1 := Lib.hid hB1
  have hw1 := hB1.size
  clear hB1
  obtain ⟨hi, hz0, hz1, hz2⟩ := HI.out
  go_wp2_with (at_builtin; refine wpList_append_src rfl _ _ 39 rfl w.heap.size 4 i0 (.bool false) 1 Try.underlying39 hi hz0 hz1 hz2 rfl _ 0 [] rfl ?o1 a2 len2 cap2 (fun i => .bool (z i)) rfl ?o2 (fun _ _ => rfl) HN2.out ?o3 ?o4 ?o5 ?_)
  case o1 => exact World.ownsRow_lit w1 #[] 0 hw1 (by unfold maxLen; omega) rfl
  case o2 =>
    intro i hi
    obtain ⟨b, off, h1, h2, h3⟩ := HZ.out i hi
    refine ⟨b, off, h1, ?_⟩
    rw [World.cell?_alloc_lt _ _ _ (Nat.lt_of_lt_of_le h2 hw1)]
    exact (HB1.out.cell (p := ⟨b, off + i, none⟩) h2).trans h3
  case o3 => unfold maxLen; omega
  case o4 => omega
  case o5 => simp; omega
  intro v2 w2 hO2' hG2
  have hO2 : w2.ownsRow w.heap.size 4 1 v2 len2 ((List.range len2).map fun i => .bool (z i)) := by simpa using hO2'
  have hB2 : Below w.heap.size w w2 := (HB1.out.alloc hw1 _).grown hG2 (by simp; omega) (fun b hb => by simp [Value.ownBlock] at hb; omega)
  have hw2 := hB2.size
  have HB2 := Lib.hid hB2
  clear hO2' hG2 hB2 HB1
  go_wp2_with (at_builtin; refine wpList_append_src rfl _ _ 39 rfl w.heap.size 4 i0 (.bool false) 1 Try.underlying39 hi hz0 hz1 hz2 rfl _ len2 _ rfl hO2 a3 len3 cap3 (fun i => .bool (y i)) rfl ?p2 (fun _ _ => rfl) HN3.out ?p3 ?p4 ?p5 ?_)
  case p2 =>
    intro i hi
    obtain ⟨b, off, h1, h2, h3⟩ := HY.out i hi
    exact ⟨b, off, h1, (HB2.out.cell (p := ⟨b, off + i, none⟩) h2).trans h3⟩
  case p3 => unfold maxLen; omega
  case p4 => omega
  case p5 => exact hw2
  intro v3 w3 hO3' hG3
  have hO3 := own_map_append (F := fun i => .bool (glue z y len2 i)) hO3' (fun i hi => by unfold glue; rw [if_pos hi]) (fun i hi => by unfold glue; rw [if_neg (by omega)]; congr 2; omega)
  have hB3 : Below w.heap.size w w3 := HB2.out.grown hG3 hw2 (fun b hb => (hO2.lt b hb).1)
  have hw3 := hB3.size
  have HB3 := Lib.hid hB3
  obtain ⟨A3, c3, rfl, hc3, hc3'⟩ := own_form hO3
  have HO3 := Lib.hid hO3
  clear hO3' hG3 hB3 HB2 hO2 hO3 hi hz0 hz1 hz2
  have hS3 : ∀ i, i < len2 + len3 → ∃ b off, A3 = some ⟨b, off, none⟩ ∧ b < w3.heap.size ∧ w3.cell? ⟨b, off + i, none⟩ = some (.bool (glue z y len2 i)) := fun i hi => by
    obtain ⟨b, cap, he, _, _, hb, hc⟩ := own_cell HO3.out hi
    simp only [Value.slice.injEq] at he
    exact ⟨b, 0, he.1, hb, by simpa using hc⟩
  have HS3 := Lib.hid hS3
  clear hS3
  go_wp2_with fail
  refine (Stamps_in now fast A3 (len2 + len3) c3 (glue z y len2) w3 (by omega) hn.1 (by omega) _ rfl HS3.out).mono ?_
  rintro e w4 ⟨v4, rfl, hO4, hB4'⟩
  obtain ⟨A4, c4, rfl, hc4, hc4'⟩ := own_form hO4
  have HO4 := Lib.hid hO4
  have HB4 := Lib.hid (step_below HB3.out hB4')
  have hw4 := HB4.out.size
  clear hO4 hB4' HB3 HO3 HS3
  go_wp2_with fail
  refine (Stamps_in now fast a2 len2 cap2 z w4 (by omega) hn.1 (by omega) _ rfl (fun i hi => by
    obtain ⟨b, off, h1, h2, h3⟩ := HZ.out i hi
    exact ⟨b, off, h1, Nat.lt_of_lt_of_le h2 hw4, (HB4.out.cell (p := ⟨b, off + i, none⟩) h2).trans h3⟩)).mono ?_
  rintro e w5 ⟨v5, rfl, hO5, hB5'⟩
  obtain ⟨A5, c5, rfl, hc5, hc5'⟩ := own_form hO5
  have HO45 := Lib.hid (own_below HO4.out hB5' (fun b hb => (HO4.out.lt b hb).2))
  have HO5 := Lib.hid hO5
  have HB5 := Lib.hid (step_below HB4.out hB5')
  have hw5 := HB5.out.size
  clear hO5 hB5' HB4 HO4
  go_wp2_with fail
  refine (Stamps_in (tm now fast z len2) fast a3 len3 cap3 y w5 (by omega) (by omega) (by omega) (tm now fast (glue z y len2) (len2 + len3)) (tm_glue_hi _ _ _ _ _ _).symm (fun i hi => by
    obtain ⟨b, off, h1, h2, h3⟩ := HY.out i hi
    exact ⟨b, off, h1, Nat.lt_of_lt_of_le h2 hw5, (HB5.out.cell (p := ⟨b, off + i, none⟩) h2).trans h3⟩)).mono ?_
  rintro e w6 ⟨v6, rfl, hO6, hB6'⟩
  obtain ⟨A6, c6, rfl, hc6, hc6'⟩ := own_form hO6
  have HO46 := Lib.hid (own_below HO45.out hB6' (fun b hb => (HO45.out.lt b hb).2))
  have HO56 := Lib.hid (own_below HO5.out hB6' (fun b hb => (HO5.out.lt b hb).2))
  have HO6 := Lib.hid hO6
  have HB6 := Lib.hid (step_below HB5.out hB6')
  unfold maxLen at hc4' hc5' hc6'
  clear hO6 hB6' HB5 HO45 HO5
  go_wp2_with fail
  go_loopw [15] (fun i wr => ∃ k : Nat, k ≤ len2 + len3 ∧ i = .int .i64 k ∧ Hid (∃ q, wr = w6.drewN q)) (fun i _ => len2 + len3 - (intOf i).toNat)
  case atStart => exact ⟨0, Nat.zero_le _, rfl, Lib.hid ⟨0, rfl⟩⟩
  case round =>
    obtain ⟨k, hk, rfl, HQ⟩ := hrel
    obtain ⟨q, rfl⟩ := HQ.out
    by_cases hlt : k < len2 + len3
    · obtain ⟨b4, cap4, he4, -, -, -, hx4⟩ := own_cell HO46.out hlt
      simp only [Value.slice.injEq] at he4
      obtain ⟨rfl, -, rfl⟩ := he4
      by_cases hlo : k < len2
      · obtain ⟨b5, cap5, he5, -, -, -, hx5⟩ := own_cell HO56.out hlo
        simp only [Value.slice.injEq] at he5
        obtain ⟨rfl, -, rfl⟩ := he5
        rw [tm_glue_lo _ _ _ _ _ _ (Nat.le_of_lt hlo)] at hx4
        have hd : decide (len2 ≤ k) = false := by simp; omega
        go_wp2_with fail
        refine wp_region_quiet_lit (by kernel_rfl) (by kernel_rfl) ?_
        repeat (go_big_quiet_step ((fail)))
        refine wpQuiet_nil ?_
        intro _ hw'
        obtain ⟨nq, rfl⟩ := hw'
        go_wp2
        go_roundw
        case rel => exact ⟨k + 1, by omega, by go_num, Lib.hid ⟨_, rfl⟩⟩
        case measure => simp [intOf]; omega
      · obtain ⟨b6, cap6, he6, -, -, -, hx6⟩ := own_cell HO6.out (i := k - len2) (by omega)
        simp only [Value.slice.injEq] at he6
        obtain ⟨rfl, -, rfl⟩ := he6
        have hd : decide (k < len2) = false := by simp; omega
        have hd2 : decide (len2 ≤ k) = true := by simp; omega
        have hle : len2 ≤ k := by omega
        rw [← tm_glue_hi, show len2 + (k - len2) = k by omega] at hx6
        go_wp2_with fail
        refine wp_region_quiet_lit (by kernel_rfl) (by kernel_rfl) ?_
        repeat (go_big_quiet_step ((fail)))
        refine wpQuiet_nil ?_
        intro _ hw'
        obtain ⟨nq, rfl⟩ := hw'
        go_wp2
        go_roundw
        case rel => exact ⟨k + 1, by omega, by go_num, Lib.hid ⟨_, rfl⟩⟩
        case measure => simp [intOf]; omega
    · go_wp2
      go_ret
      exact ⟨rfl, ⟨HB6.out.os, HB6.out.tape, HB6.out.output, HB6.out.size, HB6.out.block⟩⟩
end Go.Proofs.Ytgkbpdcedighcaa
