/-
  The walks of lines: Next, To, New.
-/
import Derived.Test.YtgkbpdcedighcadLinesT
namespace Go.Proofs.Ytgkbpdcedighcad
open Go.RowKit Go.Sort

section
variable (g : Nat) (a : Option Addr) (n cap seen : Nat) (u : Nat → Bool) (ro : Bool) (E : Nat → Ed) (w : World)

set_option maxRecDepth 100000 in
set_option maxHeartbeats 2000000 in
theorem Next_no (hA : At w g 76 (lz a n cap seen u ro)) (hs : n ≤ seen) : Calls Try.prog 39 #[.pointer (some ⟨g, 0, none⟩)] w fun e w' => e = .returned (.tuple #[.int .i64 0, .bool false]) ∧ ∃ k, w' = w.drewN k := by
  have c0 := hA.cell 0 rfl
  have c1 := hA.cell 1 rfl
  have d1 : decide ((n : Int) ≤ (seen : Int)) = true := by rw [decide_eq_true_eq]; omega
  clear hA
  go_enter Try.func39, Try.ntmps39
  go_wp2_with fail
  refine wp_region_quiet_lit (by kernel_rfl) (by kernel_rfl) ?_
  repeat (go_big_quiet_step ((fail)))
  refine wpQuiet_nil ?_
  intro _ hw'
  obtain ⟨nq, rfl⟩ := hw'
  go_wp2
  go_ret2
  exact ⟨rfl, nq, rfl⟩
set_option maxRecDepth 100000 in
set_option maxHeartbeats 2000000 in
theorem Next_yes (hA : At w g 76 (lz a n cap seen u ro)) (hE : Eds w a n E) (hs : seen < n) : Calls Try.prog 39 #[.pointer (some ⟨g, 0, none⟩)] w fun e w' => e = .returned (.tuple #[.int .i64 (E seen).st, .bool true]) ∧ ∃ k, w' = w.drewN k := by
  have c0 := hA.cell 0 rfl
  have c1 := hA.cell 1 rfl
  have d1 : decide ((n : Int) ≤ (seen : Int)) = false := by rw [decide_eq_false_iff_not]; omega
  have hk0 : (0 : Int) ≤ (seen : Int) := by omega
  have hkn : (seen : Int) < (n : Int) := by omega
  obtain ⟨b2, off2, rfl, hbl, hcl⟩ := hE.1 seen hs
  have ce : w.cell? ⟨b2, off2 + seen * 3, none⟩ = some (.int .i64 (E seen).st) := hcl 0 _ rfl
  clear hA hE hcl
  generalize (E seen).st = st at *
  go_enter Try.func39, Try.ntmps39
  go_wp2_with fail
  refine wp_region_quiet_lit (by kernel_rfl) (by kernel_rfl) ?_
  repeat (go_big_quiet_step ((fail)))
  refine wpQuiet_nil ?_
  intro _ hw'
  obtain ⟨nq, rfl⟩ := hw'
  go_wp2_with fail
  refine wp_region_quiet_lit (by kernel_rfl) (by kernel_rfl) ?_
  repeat (go_big_quiet_step ((fail)))
  refine wpQuiet_nil ?_
  intro _ hw'
  obtain ⟨nq, rfl⟩ := hw'
  go_wp2
  go_ret2
  exact ⟨rfl, _, World.drewN_drewN _ _ _⟩

set_option maxRecDepth 100000 in
set_option maxHeartbeats 4000000 in
theorem To_any (s : Int) (m : Nat) (hA : At w g 76 (lz a n cap 0 (fun _ => false) ro)) (hE : Eds w a n E) (hn : n ≤ 1000) (hm : Upto E n s m) (hln : ∀ j, j < n → (E j).ln < 4) (hab : ∀ b off, a = some ⟨b, off, none⟩ → 0 < n → b ≠ g) :
    Calls Try.prog 12 #[.pointer (some ⟨g, 0, none⟩), .int .i64 s] w fun e w' => e = .returned (.tuple #[]) ∧ (∃ ro', At w' g 76 (lz a n cap m (upF E m) ro')) ∧ Upd (· = g) w w' := by
  have HA : Hid (∃ ro, At w g 76 (lz a n cap 0 (upF E 0) ro)) := Lib.hid ⟨ro, hA⟩
  have HE := Lib.hid hE
  have HM := Lib.hid hm
  have HLN := Lib.hid hln
  have HAB := Lib.hid hab
  clear hA hE hm hln hab
  go_enter Try.func12, Try.ntmps12
  go_wp2_with fail
  go_loopw [4] (fun _ wr => ∃ k : Nat, k ≤ m ∧ Hid (∃ ro, At wr g 76 (lz a n cap k (upF E k) ro)) ∧ Hid (Eds wr a n E) ∧ Hid (Upd (· = g) w wr)) (fun _ w0 => n - (intOf ((w0.cell? ⟨g, 1, none⟩).getD undef)).toNat)
  case atStart => exact ⟨0, Nat.zero_le _, HA, HE, Lib.hid (Upd.refl _ _)⟩
  case round =>
    clear HA HE
    obtain ⟨k, hk, HA, HE, HU⟩ := hrel
    obtain ⟨ro, hA⟩ := HA.out
    have hmn := HM.out.1
    have h2 := HM.out.2.1
    have h3 := HM.out.2.2
    by_cases hkm : k < m
    · have hlt : k < n := by omega
      obtain ⟨b2, off2, rfl, hbl, hcl⟩ := HE.out.1 k hlt
      have hln := HLN.out k hlt
      have hle := h2 k hkm
      have HUP : Hid (upF E (k + 1) = fun l => if (E k).ln = l then (E k).up else upF E k l) := Lib.hid rfl
      have hnx := Next_yes g (some ⟨b2, off2, none⟩) n cap k (upF E k) ro E wr hA HE.out hlt
      replace hcl : CellsAt wr b2 (off2 + k * 3) (E k).cs := hcl
      generalize hev : E k = ek at *
      obtain ⟨st, ln, up⟩ := ek
      replace hln : ln < 4 := hln
      replace hle : st ≤ s := hle
      replace hnx : Calls Try.prog 39 #[.pointer (some ⟨g, 0, none⟩)] wr fun e w' => e = .returned (.tuple #[.int .i64 st, .bool true]) ∧ ∃ k, w' = wr.drewN k := hnx
      have ce0 : wr.cell? ⟨b2, off2 + k * 3, none⟩ = some (.int .i64 st) := hcl 0 _ rfl
      have ce1 : wr.cell? ⟨b2, off2 + k * 3 + 1, none⟩ = some (.int .u8 (ln : Int)) := hcl 1 _ rfl
      have ce2 : wr.cell? ⟨b2, off2 + k * 3 + 2, none⟩ = some (.bool up) := hcl 2 _ rfl
      have d1 : decide (s < st) = false := by rw [decide_eq_false_iff_not]; omega
      have c0 := hA.cell 0 rfl
      have c1 := hA.cell 1 rfl
      have hk0 : (0 : Int) ≤ (k : Int) := by omega
      have hkn : (k : Int) < (n : Int) := by omega
      have HA1 := Lib.hid hA
      clear hcl hev hA h2 h3 HA
      go_wp2_with fail
      refine hnx.mono ?_
      rintro e _ ⟨rfl, n1, rfl⟩
      go_wp2_with fail
      refine region_drew_tail 11 (by kernel_rfl) (by kernel_rfl) ?_
      simp only [List.take_succ_cons, List.take_zero, List.drop_succ_cons, List.drop_zero]
      repeat (go_big_quiet_step ((fail)))
      refine wpQuiet_nil ?_
      intro _ hw'
      obtain ⟨nq, rfl⟩ := hw'
      go_wp2_with fail
      refine (pass_any g (some ⟨b2, off2, none⟩) n cap k (upF E k) ro _ st ln up hln (by omega) (HA1.out.drewN (n1 + nq))).mono ?_
      rintro e w5 ⟨rfl, ⟨ro2, hA5⟩, hU5⟩
      have hU5' : Upd (· = g) wr w5 := ⟨hU5.os, hU5.tape, hU5.output, hU5.size, hU5.block⟩
      have heq : (fun i => if i = ln then up else upF E k i) = upF E (k + 1) := by
        rw [HUP.out]
        funext i
        by_cases h : i = ln
        · subst h; simp
        · rw [if_neg h]; exact (if_neg (fun h' => h h'.symm)).symm
      rw [heq] at hA5
      have m1 := hA5.cell 1 rfl
      have HA5 : Hid (∃ ro, At w5 g 76 (lz (some ⟨b2, off2, none⟩) n cap (k + 1) (upF E (k + 1)) ro)) := Lib.hid ⟨ro2, hA5⟩
      have hbg : b2 ≠ g := HAB.out b2 off2 rfl (by omega)
      have HE5 : Hid (Eds w5 (some ⟨b2, off2, none⟩) n E) := Lib.hid ⟨HE.out.1.upd hU5' (fun b' off h1 _ => by injection h1 with h1; injection h1 with h1; subst h1; exact hbg), HE.out.2⟩
      have HU5 := Lib.hid (HU.out.trans hU5' fun _ _ h => h)
      clear hA5 hU5 hU5' heq HE HU ce0 ce1 ce2 c0 HA1 hnx
      go_wp2
      go_roundw
      case rel => exact ⟨k + 1, by omega, HA5, HE5, HU5⟩
      case measure => simp [m1, c1, intOf]; omega
    · obtain rfl : k = m := by omega
      rcases h3 with rfl | h3
      · go_wp2_with fail
        refine (Next_no g a k cap k (upF E k) ro wr hA (Nat.le_refl _)).mono ?_
        rintro e _ ⟨rfl, n1, rfl⟩
        go_wp2
        (try simp only [Exit.inBlock, Exit.then])
        refine bodyPost_ret (results_none rfl _ _ _) rfl ?_
        exact ⟨rfl, ⟨ro, hA.drewN n1⟩, HU.out.drewN n1⟩
      · by_cases hkn : k = n
        · subst hkn
          go_wp2_with fail
          refine (Next_no g a k cap k (upF E k) ro wr hA (Nat.le_refl _)).mono ?_
          rintro e _ ⟨rfl, n1, rfl⟩
          go_wp2
          (try simp only [Exit.inBlock, Exit.then])
          refine bodyPost_ret (results_none rfl _ _ _) rfl ?_
          exact ⟨rfl, ⟨ro, hA.drewN n1⟩, HU.out.drewN n1⟩
        · have hnx := Next_yes g a n cap k (upF E k) ro E wr hA HE.out (by omega)
          have d1 : decide (s < (E k).st) = true := decide_eq_true h3
          generalize (E k).st = st at *
          go_wp2_with fail
          refine hnx.mono ?_
          rintro e _ ⟨rfl, n1, rfl⟩
          go_wp2
          (try simp only [Exit.inBlock, Exit.then])
          refine bodyPost_ret (results_none rfl _ _ _) rfl ?_
          exact ⟨rfl, ⟨ro, hA.drewN n1⟩, HU.out.drewN n1⟩
end
end Go.Proofs.Ytgkbpdcedighcad
