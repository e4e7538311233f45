/-
  The walk of the law ClockStamps.
-/
import Derived.Test.YtgkbpdcedighcaaClockS
namespace Go.Proofs.Ytgkbpdcedighcaa
open Go.RowKit Go.Sort

theorem upd_cell {S : Nat → Prop} {w w' : World} {b o : Nat} {v : Value} (h : w.cell? ⟨b, o, none⟩ = some v) (hu : Upd S w w') (hb : ¬ S b) : w'.cell? ⟨b, o, none⟩ = some v := by
  rw [World.cell?_of_block (w := w) (a := ⟨b, o, none⟩) (hu.block b (block_lt_of_cell h) hb)]; exact h

set_option maxHeartbeats 1000000 in
theorem ClockStamps_walk (w : World) (now : Int) (wn : (Lit.int .i64 now).wf = true) (fast : Bool) (a2 : Option Addr) (len2 cap2 : Nat) (F2 : Nat → List Value) (s2 : SlR w a2 len2 cap2 1 IsBool F2) :
    Calls Try.prog 5 #[.int .i64 now, .bool fast, .slice a2 len2 cap2] w fun e w' => e = .returned (.bool true) ∧ Below w.heap.size w w' := by
  have hn := wf_bounds_i64 wn
  obtain ⟨z, hz⟩ := s2.bools
  have HZ := Lib.hid hz
  have hm2 := s2.max
  have hle2 := s2.le
  unfold maxLen at hm2
  clear s2 hz wn
  by_cases hlong : 300 < len2
  · go_enter Try.func5, Try.ntmps5
    go_wp2_with fail
    refine (live02_any _).mono ?_
    rintro e w1 ⟨rfl, hB1⟩
    go_wp2
    go_ret
    exact ⟨rfl, hB1⟩
  go_enter Try.func5, Try.ntmps5
  go_wp2_with fail
  refine (live02_any _).mono ?_
  rintro e w1 ⟨rfl, hB1⟩
  have hz1 : ∀ i, i < len2 → ∃ b off, a2 = some ⟨b, off, none⟩ ∧ b < w1.heap.size ∧ w1.cell? ⟨b, off + i, none⟩ = some (.bool (z i)) := fun i hi => by
    obtain ⟨b, off, h1, h2, h3⟩ := HZ.out i hi
    exact ⟨b, off, h1, Nat.lt_of_lt_of_le h2 hB1.size, (hB1.cell (p := ⟨b, off + i, none⟩) h2).trans h3⟩
  have HZ1 := Lib.hid hz1
  clear hz1
  go_wp2_with fail
  refine (Stamps_any now fast a2 len2 cap2 z w1 (by omega) HZ1.out).mono ?_
  rintro e w2 ⟨v, rfl, hO2, hB2⟩
  obtain ⟨A, vcap, rfl, hv1, hv2⟩ := own_form hO2
  have HO2 := Lib.hid hO2
  have hB2' := step_below hB1 hB2
  clear hO2 hB2
  go_wp2_with fail
  refine (At2_any _ _ _).mono ?_
  rintro e w3 ⟨g, rfl, hg, hR3, hB3⟩
  have hcl := clamp_bounds now
  have HO3 := Lib.hid (own_below HO2.out hB3 (fun b hb => (HO2.out.lt b hb).2))
  have hvg : ∀ b, (Value.slice A len2 vcap).ownBlock = some b → b < g := fun b hb => Nat.lt_of_lt_of_le (HO2.out.lt b hb).2 hg
  have HVG := Lib.hid hvg
  have HB3 := Lib.hid (step_below hB2' hB3)
  have hgw : w.heap.size ≤ g := Nat.le_trans hB2'.size hg
  have HR3 := Lib.hid hR3
  have hsz1 := hB1.size
  unfold maxLen at hv2
  clear hB3 hB2' hvg hR3 HO2 HZ1 hB1
  go_wp2_with fail
  go_loopw [10] (fun i wr => ∃ k : Nat, k ≤ len2 ∧ i = .int .i64 k ∧ Hid (wr.ownsRow w1.heap.size 2 1 (.slice A len2 vcap) len2 ((List.range len2).map fun i => .int .i64 (tm (clampI now) fast z i))) ∧ Hid (∃ cyc, 0 ≤ cyc ∧ cyc ≤ 2 * (k : Int) ∧ At wr g 30 (rk (tm (clampI now) fast z k) cyc fast false false)) ∧ Hid (Below w.heap.size w wr)) (fun i _ => len2 - (intOf i).toNat)
  case atStart => exact ⟨0, Nat.zero_le _, rfl, HO3, Lib.hid ⟨0, by omega, by omega, HR3.out⟩, HB3⟩
  case round =>
    obtain ⟨k, hk, rfl, HO, HC, HB⟩ := hrel
    obtain ⟨cyc, hc0, hc1, hR⟩ := HC.out
    have htm := tm_bd (clampI now) fast z k
    by_cases hlt : k < len2
    · obtain ⟨b2, off2, rfl, hbl, hcl2⟩ := HZ.out k hlt
      have hcell : wr.cell? ⟨b2, off2 + k, none⟩ = some (.bool (z k)) := (HB.out.cell (p := ⟨b2, off2 + k, none⟩) hbl).trans hcl2
      obtain ⟨b3, cap3, he3, hcap3, hb3, hb3', hcell3⟩ := own_cell HO.out hlt
      simp only [Value.slice.injEq] at he3
      obtain ⟨rfl, -, rfl⟩ := he3
      have hlt3 : b3 < g := HVG.out b3 rfl
      clear hcl2
      go_wp2_with fail
      have hRd : At wr.drew g 30 _ := hR.drew
      have hx : wr.drew.cell? ⟨b3, k, none⟩ = some (.int .i64 (tm (clampI now) fast z k)) := hcell3
      have hy : wr.drew.cell? ⟨b2, off2 + k, none⟩ = some (.bool (z k)) := hcell
      have hid := idx_bd (z k)
      clear hcell hcell3
      go_region_with (go_at_call 29; refine (Cycle2_any g _ cyc fast false false (z k) wr.drew hRd (by omega) (by omega) hc0 (by omega)).mono ?_; rintro e w5 ⟨rfl, hR5, hU5⟩; have hx5 := upd_cell hx hU5 (by omega))
      all_goals
        have HR5 := Lib.hid hR5
        have HU5 := Lib.hid hU5
        have HO5 := Lib.hid (own_upd (w := wr.drew) HO.out hU5 (fun b hb e => by have := HVG.out b hb; omega))
        have HB5 := Lib.hid (step_upd (w := wr.drew) ⟨HB.out.os, HB.out.tape, HB.out.output, HB.out.size, HB.out.block⟩ hU5 hgw)
        clear hR5 hU5 hRd hx hy hR
        try clear hx5
        go_wp2
        go_roundw
        case rel => exact ⟨k + 1, by omega, by go_num, HO5, Lib.hid ⟨_, by omega, by omega, HR5.out⟩, HB5⟩
        case measure => simp [intOf]; omega
    · obtain rfl : k = len2 := by omega
      clear hlt
      have q0 := hR.cell 0 rfl
      have HR := Lib.hid hR
      clear hR
      go_wp2
      go_ret
      exact ⟨rfl, HB.out⟩
end Go.Proofs.Ytgkbpdcedighcaa
