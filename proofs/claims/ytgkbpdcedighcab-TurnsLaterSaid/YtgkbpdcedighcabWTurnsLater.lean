/-
  The walk of the law TurnsLater.
-/
import Derived.Test.YtgkbpdcedighcabTurnL
import Derived.Test.YtgkbpdcedighcabBinQ
import Derived.Test.YtgkbpdcedighcabOpenS
namespace Go.Proofs.Ytgkbpdcedighcab
open Go.RowKit Go.Sort

def consZ (x : Int) (z : Nat → Int) : Nat → Int
  | 0 => x
  | i + 1 => z i

theorem binZ_cons (x : Int) (z : Nat → Int) (k : Nat) (hk : k < 4) (n : Nat) : binZ (consZ x z) k (n + 1) = addZ (x, 0) (mulZ (tI k) (binZ z k n)) := by
  induction n with
  | zero => simp [binZ, addZ, mulZ, tI, consZ]
  | succ n ih =>
    rw [binZ, ih, binZ, show k * (n + 1) = k * n + k by rw [Nat.mul_add, Nat.mul_one], ← mulZ_tI]
    show addZ _ (mulZ (z n, 0) _) = _
    generalize tI (k * n) = t
    generalize binZ z k n = s
    match k, hk with
    | 0, _ => simp [addZ, mulZ, tI]; omega
    | 1, _ => simp [addZ, mulZ, tI, Int.mul_neg]; omega
    | 2, _ => simp [addZ, mulZ, tI, Int.mul_neg]; omega
    | 3, _ => simp [addZ, mulZ, tI, Int.mul_neg]; omega

theorem own_fresh (w : World) (e : TypeId) (v : Value) (base : Nat) (hb : base ≤ w.heap.size) : (w.alloc (.cells #[v] e)).ownsRow base e 1 (.slice (some ⟨w.heap.size, 0, none⟩) 1 1) 1 [v] :=
  ⟨rfl, .inr ⟨_, 1, #[v], rfl, hb, At.new w #[v] e, Nat.le_refl _, by unfold maxLen; omega, rfl, rfl⟩⟩

theorem SlR.intsAt' {w : World} {a : Option Addr} {n cap : Nat} {F : Nat → List Value} (h : SlR w a n cap 1 (IsInt .i64) F) : ∃ z : Nat → Int, IntsAt w a n z := by
  obtain ⟨z, hz⟩ := h.ints
  exact ⟨z, fun i hi => (hz i hi).2⟩

theorem cons_range (x : Int) (z : Nat → Int) (n : Nat) : Value.int .i64 x :: (List.range n).map (fun i => Value.int .i64 (z i)) = (List.range (1 + n)).map fun i => .int .i64 (consZ x z i) := by
  rw [Nat.add_comm, List.range_succ_eq_map, List.map_cons, List.map_map]
  rfl

set_option maxRecDepth 100000 in
set_option maxHeartbeats 16000000 in
theorem TurnsLater_walk (w : World) (a : Option Addr) (n cap : Nat) (F : Nat → List Value) (s : SlR w a n cap 1 (IsInt .i64) F) (x : Int) (_ : (Lit.int .i64 x).wf = true) :
    Calls Try.prog 4 #[.slice a n cap, .int .i64 x] w fun e w' => e = .returned (.bool true) ∧ Below w.heap.size w w' := by
  have hnil := s.nil
  obtain ⟨z, hz⟩ := s.intsAt'
  have HZ := Lib.hid hz
  have HNIL := Lib.hid hnil
  clear s hz hnil
  by_cases hlong : 4000 < n
  · have hd : decide (4000 < (n : Int)) = true := by rw [decide_eq_true_eq]; omega
    go_enter Try.func4, Try.ntmps4
    go_wp2_with fail
    refine (live17_any w).mono ?_
    rintro e w1 ⟨rfl, hB1⟩
    go_wp2
    go_ret
    exact ⟨rfl, hB1⟩
  · have hd : decide (4000 < (n : Int)) = false := by rw [decide_eq_false_iff_not]; omega
    have hn : n ≤ 4611686018427387904 := by omega
    obtain ⟨i0, hi, hz0, hz1, hz2⟩ := info_parts infoInt
    go_enter Try.func4, Try.ntmps4
    go_wp2_with fail
    refine (live17_any w).mono ?_
    rintro e w1 ⟨rfl, hB1⟩
    go_wp2_with fail
    refine (Of_any a n cap z w1 (HZ.out.step hB1) hn).mono ?_
    rintro e w2 ⟨rfl, hb2⟩
    rw [pI_row]
    have hB2 := step_below hB1 hb2
    clear hb2 hB1
    have hsrc : ∀ w', Below w2.heap.size w2 w' → Src w' a n (fun i => .int .i64 (z i)) := fun w' hb i hi => by
      obtain ⟨b, off, h1, _, h3⟩ := HZ.out.step (step_below hB2 hb) i hi
      exact ⟨b, off, h1, h3⟩
    have hown : ∀ o1, ((w2.alloc o1).alloc (.cells #[.int .i64 x] 3)).ownsRow w2.heap.size 3 1 (.slice (some ⟨w2.heap.size + 1, 0, none⟩) 1 1) 1 [.int .i64 x] := fun o1 => by
      have h := own_fresh (w2.alloc o1) 3 (.int .i64 x) w2.heap.size (by simp)
      rwa [alloc_size] at h
    have hbw : ∀ o1 o2, Below w2.heap.size w2 ((w2.alloc o1).alloc o2) := fun o1 o2 => ((Below.refl _ _).alloc (Nat.le_refl _) _).alloc (by simp) _
    go_wp2_with (at_builtin; refine wpList_append_src rfl _ _ 31 rfl w2.heap.size 3 i0 (.int .i64 0) 8 Try.underlying31 hi hz0 hz1 hz2 rfl _ 1 [.int .i64 x] rfl (hown _) a n cap (fun i => .int .i64 (z i)) rfl (hsrc _ (hbw _ _)) (fun _ _ => rfl) HNIL.out (by unfold maxLen; omega) (by omega) (by simp; omega) ?_)
    intro v w3 hO3 hg3
    rw [cons_range] at hO3
    obtain ⟨a2, cap2, rfl, hints⟩ := ints_own hO3
    have hA5 : At w3 w2.heap.size 23 [.int .i64 (binR z n 0).1, .int .i64 (binR z n 0).2, .int .i64 (binR z n 1).1, .int .i64 (binR z n 1).2, .int .i64 (binR z n 2).1, .int .i64 (binR z n 2).2, .int .i64 (binR z n 3).1, .int .i64 (binR z n 3).2] :=
      ((At.new w2 _ _).alloc _).grown hg3 (by simp [Value.ownBlock])
    have hB3 : Below w.heap.size w w3 := (hB2.trans ((hbw _ _).mono hB2.size)).grown hg3 (by have := hB2.size; simp; omega) (fun b hb => by have := hB2.size; simp [Value.ownBlock] at hb; omega)
    clear hsrc hown hbw hO3 hg3 hi hz0 hz1 hz2 hB2
    go_wp2_with fail
    refine (Of_any a2 (1 + n) cap2 (consZ x z) w3 hints (by omega)).mono ?_
    rintro e w4 ⟨rfl, hb4⟩
    rw [pI_row]
    replace hA5 := hA5.below hb4 hA5.lt
    have hB4 := step_below hB3 hb4
    clear hB3 hb4 hints
    by_cases h0 : wrongZ z n = 0
    · by_cases h1 : wrongZ (consZ x z) (1 + n) = 0
      · have hn2 := wrongZ_zero h1
        have hxb : -262144 ≤ x ∧ x ≤ 262144 := hn2.2 0 (by omega)
        have eA : ∀ k, binR z n k = binZ z k n := fun k => by rw [binR, if_pos h0]
        have eB : ∀ k, k < 4 → binR (consZ x z) (1 + n) k = addZ (x, 0) (mulZ (tI k) (binR z n k)) := fun k hk => by rw [binR, if_pos h1, Nat.add_comm 1 n, binZ_cons x z k hk, eA k]
        obtain ⟨f0, f1, f2, f3⟩ := binZ_fold z n
        have hall := binR_all z n
        have y0 : (binR z n 0).2 = 0 := by rw [eA, f0]
        have y2 : (binR z n 2).2 = 0 := by rw [eA, f2]
        have x13 : (binR z n 1).1 = (binR z n 3).1 := by rw [eA, eA, f1, f3]
        have y13 : (binR z n 1).2 = -(binR z n 3).2 := by rw [eA, eA, f1, f3]; simp; omega
        rw [eB 0 (by omega), eB 1 (by omega), eB 2 (by omega), eB 3 (by omega)]
        simp only [tI, addZ, mulZ, y0, y2, x13, y13, h0, h1, Int.mul_zero, Int.zero_mul, Int.one_mul, Int.neg_zero, Int.sub_zero, Int.zero_sub, Int.add_zero, Int.zero_add, Int.neg_mul, Int.neg_neg] at hA5 ⊢
        have b0 := (hall 0).1
        have b2 := (hall 2).1
        have b3 := (hall 3).1
        have c3 := (hall 3).2
        clear eA eB f0 f1 f2 f3 hall y0 y2 x13 y13 h0 h1 hn2
        generalize (binR z n 0).1 = x0 at *
        generalize (binR z n 2).1 = x2 at *
        generalize (binR z n 3).1 = x3 at *
        generalize (binR z n 3).2 = y3 at *
        simp only [Int.add_comm x x0, Int.add_comm x (-y3), Int.add_comm x (-x2)]
        have HA5 := Lib.hid hA5
        have HB4 := Lib.hid hB4
        clear hA5 hB4
        go_wp2_with fail
        refine allocs1 ?_
        intro w5 hA7 hb5 _
        have hA5 := HA5.out.below hb5 HA5.out.lt
        have HB5 := Lib.hid (step_below HB4.out hb5)
        have c0 := hA5.cell 0 rfl
        have d0 := hA7.cell 0 rfl
        have c1 := hA5.cell 1 rfl
        have d1 := hA7.cell 1 rfl
        have c2 := hA5.cell 2 rfl
        have d2 := hA7.cell 2 rfl
        have c3 := hA5.cell 3 rfl
        have d3 := hA7.cell 3 rfl
        have c4 := hA5.cell 4 rfl
        have d4 := hA7.cell 4 rfl
        have c5 := hA5.cell 5 rfl
        have d5 := hA7.cell 5 rfl
        have c6 := hA5.cell 6 rfl
        have d6 := hA7.cell 6 rfl
        have c7 := hA5.cell 7 rfl
        have d7 := hA7.cell 7 rfl
        clear hA5 hA7 HA5 HB4 hb5
        refine wp_loop_rounds 5 ?_
        rw [rounds_succ]
        go_wp2_with fail
        refine wp_region_quiet_lit (by kernel_rfl) (by kernel_rfl) ?_
        repeat (go_big_quiet_step ((fail)))
        refine wpQuiet_nil ?_
        intro _ hw'
        obtain ⟨nq, rfl⟩ := hw'
        go_wp2_with fail
        refine wp_loop_rounds 1 ?_
        rw [rounds_succ]
        go_wp2_with fail
        rw [rounds_succ]
        go_wp2_with fail
        refine wp_region_quiet_lit (by kernel_rfl) (by kernel_rfl) ?_
        repeat (go_big_quiet_step ((fail)))
        refine wpQuiet_nil ?_
        intro _ hw'
        obtain ⟨nq, rfl⟩ := hw'
        go_wp2_with fail
        refine wp_loop_rounds 2 ?_
        rw [rounds_succ]
        go_wp2_with fail
        rw [rounds_succ]
        go_wp2_with fail
        rw [rounds_succ]
        go_wp2_with fail
        refine wp_region_quiet_lit (by kernel_rfl) (by kernel_rfl) ?_
        repeat (go_big_quiet_step ((fail)))
        refine wpQuiet_nil ?_
        intro _ hw'
        obtain ⟨nq, rfl⟩ := hw'
        go_wp2_with fail
        refine wp_loop_rounds 3 ?_
        rw [rounds_succ]
        go_wp2_with fail
        rw [rounds_succ]
        go_wp2_with fail
        rw [rounds_succ]
        go_wp2_with fail
        rw [rounds_succ]
        go_wp2_with fail
        refine wp_region_quiet_lit (by kernel_rfl) (by kernel_rfl) ?_
        repeat (go_big_quiet_step ((fail)))
        refine wpQuiet_nil ?_
        intro _ hw'
        obtain ⟨nq, rfl⟩ := hw'
        go_wp2_with fail
        refine wp_loop_rounds 4 ?_
        rw [rounds_succ]
        go_wp2_with fail
        rw [rounds_succ]
        go_wp2_with fail
        rw [rounds_succ]
        go_wp2_with fail
        rw [rounds_succ]
        go_wp2_with fail
        rw [rounds_succ]
        go_wp2
        go_ret
        exact ⟨rfl, by have h := HB5.out; exact ⟨h.os, h.tape, h.output, h.size, h.block⟩⟩
      · have hz2 : ∀ k, binR (consZ x z) (1 + n) k = (0, 0) := fun k => by rw [binR, if_neg h1]
        simp only [hz2, h0]
        generalize hy : wrongZ (consZ x z) (1 + n) = y at h1 ⊢
        clear hy
        have g1 : (y != 0) = true := by simpa using h1
        have q3 : ∀ w, (binOp .eql 23 (.agg #[.int .i64 0, .int .i64 0, .int .i64 0, .int .i64 0, .int .i64 0, .int .i64 0, .int .i64 0, .int .i64 0]) (.agg #[.int .i64 0, .int .i64 0, .int .i64 0, .int .i64 0, .int .i64 0, .int .i64 0, .int .i64 0, .int .i64 0])).run Try.prog w = .ok (.bool true) w := fun w => by
          have h := (eql8 (fun _ => 0) (fun _ => 0)).1 w
          rw [eqB_same (fun _ _ => rfl)] at h
          exact h
        clear hA5
        go_wp2
        go_ret
        exact ⟨rfl, hB4.alloc hB4.size _⟩
    · have hz2 : ∀ k, binR z n k = (0, 0) := fun k => by rw [binR, if_neg h0]
      simp only [hz2] at hA5 ⊢
      generalize hy : wrongZ z n = y at h0 ⊢
      clear hy
      have g1 : (y != 0) = true := by simpa using h0
      have q3 : ∀ w, (binOp .eql 23 (.agg #[.int .i64 0, .int .i64 0, .int .i64 0, .int .i64 0, .int .i64 0, .int .i64 0, .int .i64 0, .int .i64 0]) (.agg #[.int .i64 0, .int .i64 0, .int .i64 0, .int .i64 0, .int .i64 0, .int .i64 0, .int .i64 0, .int .i64 0])).run Try.prog w = .ok (.bool true) w := fun w => by
        have h := (eql8 (fun _ => 0) (fun _ => 0)).1 w
        rw [eqB_same (fun _ _ => rfl)] at h
        exact h
      go_wp2_with (with_reducible refine wpList_load_at_w (by kernel_rfl) 23 (.tmp 5) rfl w2.heap.size (by kernel_rfl) 23 _ (hA5.alloc _) _ Try.underlying23 rfl (by kernel_rfl) ?_)
      go_ret
      exact ⟨rfl, hB4.alloc hB4.size _⟩
end Go.Proofs.Ytgkbpdcedighcab
