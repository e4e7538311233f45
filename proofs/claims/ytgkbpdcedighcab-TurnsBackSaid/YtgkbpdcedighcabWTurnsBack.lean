/-
  The walk of the law TurnsBack.
-/
import Derived.Test.YtgkbpdcedighcabTurnR
import Derived.Test.YtgkbpdcedighcabBinQ
import Derived.Test.YtgkbpdcedighcabOpenA
namespace Go.Proofs.Ytgkbpdcedighcab
open Go.RowKit Go.Sort

set_option maxRecDepth 100000 in
theorem pairs_arg {H : Type} {enc : TypeId × Value → H} {w : World} {base : Nat} {spare : Nat → Bool} {held : Bool} {r : Reach} {b0 : Nat} {v : Value} {d : DataW H} {p : List MemPlace}
    (hv : Value.okWide Try.prog w r b0 23 v) (h : DataW.Trod enc Try.prog w base spare held 23 v d p) : ∃ f : Nat → Int, v = .agg (rowI 8 f).toArray ∧ ∀ i, i < 8 → (Lit.int .i64 (f i)).wf = true :=
  arr2_arg (n := 4) (m := 2) Try.underlying23 Try.underlying22 Try.underlying3 (by kernel_rfl) (by kernel_rfl) (by kernel_rfl) (by omega) hv h
set_option maxRecDepth 100000 in
theorem fours_arg {H : Type} {enc : TypeId × Value → H} {w : World} {base : Nat} {spare : Nat → Bool} {held : Bool} {r : Reach} {b0 : Nat} {v : Value} {d : DataW H} {p : List MemPlace}
    (hv : Value.okWide Try.prog w r b0 24 v) (h : DataW.Trod enc Try.prog w base spare held 24 v d p) : ∃ f : Nat → Int, v = .agg (rowI 4 f).toArray ∧ ∀ i, i < 4 → (Lit.int .i64 (f i)).wf = true :=
  arr_arg Try.underlying24 Try.underlying3 (by kernel_rfl) (by kernel_rfl) hv h
set_option maxRecDepth 100000 in
theorem TurnsBack_0_arg {H : Type} {enc : TypeId × Value → H} {w : World} {base : Nat} {spare : Nat → Bool} {held : Bool} {r : Reach} {b0 : Nat} {v : Value} {d : DataW H} {p : List MemPlace}
    (hv : Value.okWide Try.prog w r b0 23 v) (h : DataW.Trod enc Try.prog w base spare held 23 v d p) : ∃ f : Nat → Int, v = .agg (rowI 8 f).toArray ∧ ∀ i, i < 8 → (Lit.int .i64 (f i)).wf = true := pairs_arg hv h
set_option maxRecDepth 100000 in
theorem TurnsBack_1_arg {H : Type} {enc : TypeId × Value → H} {w : World} {base : Nat} {spare : Nat → Bool} {held : Bool} {r : Reach} {b0 : Nat} {v : Value} {d : DataW H} {p : List MemPlace}
    (hv : Value.okWide Try.prog w r b0 24 v) (h : DataW.Trod enc Try.prog w base spare held 24 v d p) : ∃ f : Nat → Int, v = .agg (rowI 4 f).toArray ∧ ∀ i, i < 4 → (Lit.int .i64 (f i)).wf = true := fours_arg hv h

theorem foldZ4 (g : Nat → Int) (j : Nat) (hj : j < 4) : foldZ g 4 j = g j := by
  match j, hj with
  | 0, _ => simp [foldZ]
  | 1, _ => simp [foldZ]
  | 2, _ => simp [foldZ]
  | 3, _ => simp [foldZ]

theorem back_of (g : Nat → Int) (h : wrongZ g 4 = 0) : backE (pI (binR g 4)) = 0 ∧ ∀ k, k < 4 → backV (pI (binR g 4)) k = g k := by
  obtain ⟨P, hP⟩ : ∃ P, P = pI (binR g 4) := ⟨_, rfl⟩
  rw [← hP]
  have hb := (wrongZ_zero h).2
  have hv : ∀ i, i < 8 → P i = binF g i := fun i hi => by
    have e : binR g 4 = fun k => binZ g k 4 := by funext k; rw [binR, if_pos h]
    rw [hP, e, binF_fold g 4 i hi]
    match i, hi with
    | 0, _ => simp only [binF, foldZ4 g 0 (by omega), foldZ4 g 1 (by omega), foldZ4 g 2 (by omega), foldZ4 g 3 (by omega)]
    | 1, _ => rfl
    | 2, _ => simp only [binF, foldZ4 g 0 (by omega), foldZ4 g 2 (by omega)]
    | 3, _ => simp only [binF, foldZ4 g 1 (by omega), foldZ4 g 3 (by omega)]
    | 4, _ => simp only [binF, foldZ4 g 0 (by omega), foldZ4 g 1 (by omega), foldZ4 g 2 (by omega), foldZ4 g 3 (by omega)]
    | 5, _ => rfl
    | 6, _ => simp only [binF, foldZ4 g 0 (by omega), foldZ4 g 2 (by omega)]
    | 7, _ => simp only [binF, foldZ4 g 1 (by omega), foldZ4 g 3 (by omega)]
  have g0 := hv 0 (by omega)
  have g1 := hv 1 (by omega)
  have g2 := hv 2 (by omega)
  have g3 := hv 3 (by omega)
  have g4 := hv 4 (by omega)
  have g5 := hv 5 (by omega)
  have g6 := hv 6 (by omega)
  have g7 := hv 7 (by omega)
  have b0 := hb 0 (by omega)
  have b1 := hb 1 (by omega)
  have b2 := hb 2 (by omega)
  have b3 := hb 3 (by omega)
  simp only [binF] at g0 g1 g2 g3 g4 g5 g6 g7
  clear hv hb hP
  have hf : ∀ x : Int, -2097152 ≤ x ∧ x ≤ 2097152 → farB x = false := fun x hx => by simp [farB]; omega
  have far : farAll P 4 = false := by
    have e : farAll P 4 = ((((false || (farB (P 0) || farB (P 1))) || (farB (P 2) || farB (P 3))) || (farB (P 4) || farB (P 5))) || (farB (P 6) || farB (P 7))) := rfl
    rw [e, hf (P 0) (by omega), hf (P 1) (by omega), hf (P 2) (by omega), hf (P 3) (by omega), hf (P 4) (by omega), hf (P 5) (by omega), hf (P 6) (by omega), hf (P 7) (by omega)]
    rfl
  have r0 : (fourC P 0).1 = 4 * g 0 ∧ (fourC P 0).2 = 0 := by simp only [fourC]; omega
  have r1 : (fourC P 1).1 = 4 * g 1 ∧ (fourC P 1).2 = 0 := by simp only [fourC]; omega
  have r2 : (fourC P 2).1 = 4 * g 2 ∧ (fourC P 2).2 = 0 := by simp only [fourC]; omega
  have r3 : (fourC P 3).1 = 4 * g 3 ∧ (fourC P 3).2 = 0 := by simp only [fourC]; omega
  have ok : ∀ n x, (fourC P n).1 = 4 * x ∧ (fourC P n).2 = 0 → okC P n = true := fun n x hx => by
    rw [okC, hx.1, hx.2, Int.mul_tmod_right]; rfl
  have he : backEC P = 0 := by
    rw [backEC, far, ok 0 _ r0, ok 1 _ r1, ok 2 _ r2, ok 3 _ r3]; rfl
  refine ⟨(backE_c P).trans he, fun k hk => ?_⟩
  rw [backV_c P k hk, backVC, if_pos he]
  match k, hk with
  | 0, _ => exact tdiv4 _ _ r0.1
  | 1, _ => exact tdiv4 _ _ r1.1
  | 2, _ => exact tdiv4 _ _ r2.1
  | 3, _ => exact tdiv4 _ _ r3.1

set_option maxRecDepth 100000 in
set_option maxHeartbeats 8000000 in
theorem TurnsBack_walk (w : World) (p : Nat → Int) (_ : ∀ i, i < 8 → (Lit.int .i64 (p i)).wf = true) (g : Nat → Int) (_ : ∀ i, i < 4 → (Lit.int .i64 (g i)).wf = true) :
    Calls Try.prog 3 #[.agg (rowI 8 p).toArray, .agg (rowI 4 g).toArray] w fun e w' => e = .returned (.bool true) ∧ Below w.heap.size w w' := by
  go_enter Try.func3, Try.ntmps3
  go_wp2_with fail
  refine allocs2 (F := fun w => Calls _ _ _ w _) ?_
  intro w1 hA2 hA3 hB1 _
  replace hA2 : At w1 w.heap.size 23 (rowI 8 p) := hA2
  replace hA3 : At w1 (w.heap.size + 1) 24 (rowI 4 g) := hA3
  refine (live17_any w1).mono ?_
  rintro e w2 ⟨rfl, hb2⟩
  replace hA2 := hA2.below hb2 hA2.lt
  replace hA3 := hA3.below hb2 hA3.lt
  have hB2 := step_below hB1 hb2
  clear hB1 hb2
  go_wp2_with (with_reducible refine wpList_load_at rfl 23 (.tmp 2) rfl w.heap.size (by kernel_rfl) 23 (rowI 8 p) hA2 _ Try.underlying23 rfl (by kernel_rfl) ?_)
  refine (Back_turns p w2).mono ?_
  rintro e w3 ⟨rfl, hb3⟩
  replace hA2 := hA2.below hb3 hA2.lt
  replace hA3 := hA3.below hb3 hA3.lt
  have hB3 := step_below hB2 hb3
  rw [show rowI 4 (backV p) = [.int .i64 (backV p 0), .int .i64 (backV p 1), .int .i64 (backV p 2), .int .i64 (backV p 3)] from rfl]
  clear hB2 hb3
  go_wp2_with (with_reducible refine wpList_load_at rfl 23 (.tmp 2) rfl w.heap.size (by kernel_rfl) 23 (rowI 8 p) (hA2.alloc _) _ Try.underlying23 rfl (by kernel_rfl) ?_)
  refine allocs1 (F := fun w => Calls _ _ _ w _) ?_
  intro w4 hA5 hb4 _
  replace hA3 := hA3.below hb4 hA3.lt
  have hB4 := step_below hB3 hb4
  clear hB3 hb4 hA2
  refine (RBack_same p w4).mono ?_
  rintro e w5 ⟨rfl, hb5⟩
  replace hA3 := hA3.below hb5 hA3.lt
  replace hA5 := hA5.below hb5 hA5.lt
  have hB5 := step_below hB4 hb5
  rw [show rowI 4 (backV p) = [.int .i64 (backV p 0), .int .i64 (backV p 1), .int .i64 (backV p 2), .int .i64 (backV p 3)] from rfl]
  clear hB4 hb5
  have q1 : ∀ w, (binOp .neq 24 (.agg #[.int .i64 (backV p 0), .int .i64 (backV p 1), .int .i64 (backV p 2), .int .i64 (backV p 3)]) (.agg #[.int .i64 (backV p 0), .int .i64 (backV p 1), .int .i64 (backV p 2), .int .i64 (backV p 3)])).run Try.prog w = .ok (.bool false) w := fun w => by
    have h := (eql4 (backV p) (backV p)).2 w
    rw [eqB_same (fun _ _ => rfl)] at h
    exact h
  have r7 : At (w5.alloc (.cells #[.int .i64 (backV p 0), .int .i64 (backV p 1), .int .i64 (backV p 2), .int .i64 (backV p 3)] 24)) w5.heap.size 24 [.int .i64 (backV p 0), .int .i64 (backV p 1), .int .i64 (backV p 2), .int .i64 (backV p 3)] := At.new _ _ _
  replace hA5 : At w5 w3.heap.size 24 [.int .i64 (backV p 0), .int .i64 (backV p 1), .int .i64 (backV p 2), .int .i64 (backV p 3)] := hA5
  generalize backE p = err at *
  generalize backV p 0 = v0 at *
  generalize backV p 1 = v1 at *
  generalize backV p 2 = v2 at *
  generalize backV p 3 = v3 at *
  have e1 : (err != err) = false := by simp
  go_wp2_with (first
    | (with_reducible refine wpList_load_at_w (by kernel_rfl) 24 (.tmp 5) rfl w3.heap.size (by kernel_rfl) 24 _ (hA5.alloc _) _ Try.underlying24 rfl (by kernel_rfl) ?_)
    | (with_reducible refine wpList_load_at_w (by kernel_rfl) 24 (.tmp 7) rfl w5.heap.size (by kernel_rfl) 24 _ r7 _ Try.underlying24 rfl (by kernel_rfl) ?_))
  refine allocs1 (F := fun w => Calls _ _ _ w _) ?_
  intro w6 _ hb6 _
  replace hA3 := hA3.below hb6 hA3.lt
  have hB6 := step_below hB5 hb6
  clear hA5 r7 q1 e1 hB5 hb6
  refine (Of_any (some ⟨w.heap.size + 1, 0, none⟩) 4 4 g w6 (ints_at hA3) (by omega)).mono ?_
  rintro e w7 ⟨rfl, hb7⟩
  replace hA3 := hA3.below hb7 hA3.lt
  have hB7 := step_below hB6 hb7
  clear hB6 hb7
  by_cases h0 : wrongZ g 4 = 0
  · obtain ⟨hbe, hbv⟩ := back_of g h0
    have HV : Hid (rowI 4 (backV (pI (binR g 4))) = [.int .i64 (g 0), .int .i64 (g 1), .int .i64 (g 2), .int .i64 (g 3)]) := Lib.hid (rowF_ext (g := fun i => Value.int .i64 (g i)) fun i hi => by rw [hbv i hi])
    have HE := Lib.hid hbe
    have HP : Hid (∀ w, Calls Try.prog 16 #[.agg (rowI 8 (pI (binR g 4))).toArray] w fun e w' => e = .returned (.tuple #[.agg (rowI 4 (backV (pI (binR g 4)))).toArray, .int .i64 (backE (pI (binR g 4)))]) ∧ Below w.heap.size w w') := Lib.hid fun w => Back_turns _ w
    rw [h0]
    rw [HV.out, HE.out] at HP
    rw [pI_row] at HP ⊢
    clear hbe hbv h0
    generalize (binR g 4 0).1 = x0 at *
    generalize (binR g 4 0).2 = y0 at *
    generalize (binR g 4 1).1 = x1 at *
    generalize (binR g 4 1).2 = y1 at *
    generalize (binR g 4 2).1 = x2 at *
    generalize (binR g 4 2).2 = y2 at *
    generalize (binR g 4 3).1 = x3 at *
    generalize (binR g 4 3).2 = y3 at *
    go_wp2_with fail
    refine allocs1 (F := fun w => Calls _ _ _ w _) ?_
    intro w8 _ hb8 _
    replace hA3 := hA3.below hb8 hA3.lt
    have hB8 := step_below hB7 hb8
    clear hB7 hb8
    refine (HP.out w8).mono ?_
    rintro e w9 ⟨rfl, hb9⟩
    replace hA3 := hA3.below hb9 hA3.lt
    have hB9 := step_below hB8 hb9
    have HA3 := Lib.hid hA3
    have HB9 := Lib.hid hB9
    have q2 : ∀ w, (binOp .eql 24 (.agg #[.int .i64 (g 0), .int .i64 (g 1), .int .i64 (g 2), .int .i64 (g 3)]) (.agg (rowI 4 g).toArray)).run Try.prog w = .ok (.bool true) w := fun w => by
      have h := (eql4 g g).1 w
      rw [eqB_same (fun _ _ => rfl)] at h
      exact h
    have r11 : At (w9.alloc (.cells #[.int .i64 (g 0), .int .i64 (g 1), .int .i64 (g 2), .int .i64 (g 3)] 24)) w9.heap.size 24 [.int .i64 (g 0), .int .i64 (g 1), .int .i64 (g 2), .int .i64 (g 3)] := At.new _ _ _
    clear hA3 hB8 hb9 hB9 HP
    go_wp2_with (first
      | (with_reducible refine wpList_load_at_w (by kernel_rfl) 24 (.tmp 11) rfl w9.heap.size (by kernel_rfl) 24 _ r11 _ Try.underlying24 rfl (by kernel_rfl) ?_)
      | (with_reducible refine wpList_load_at_w (by kernel_rfl) 24 (.tmp 3) rfl (w.heap.size + 1) (by kernel_rfl) 24 (rowI 4 g) (HA3.out.alloc _) _ Try.underlying24 rfl (by kernel_rfl) ?_))
    go_ret
    exact ⟨rfl, HB9.out.alloc HB9.out.size _⟩
  · have hz2 : ∀ k, binR g 4 k = (0, 0) := fun k => by rw [binR, if_neg h0]
    rw [show rowI 8 (pI (binR g 4)) = [.int .i64 0, .int .i64 0, .int .i64 0, .int .i64 0, .int .i64 0, .int .i64 0, .int .i64 0, .int .i64 0] from (rowF_ext (g := fun _ => Value.int .i64 0) fun i _ => by simp [pI, hz2])]
    generalize hx : wrongZ g 4 = x at h0 ⊢
    clear hx
    have h1 : (x != 0) = true := by simpa using h0
    have q3 : ∀ w, (binOp .eql 23 (.agg #[.int .i64 0, .int .i64 0, .int .i64 0, .int .i64 0, .int .i64 0, .int .i64 0, .int .i64 0, .int .i64 0]) (.agg #[.int .i64 0, .int .i64 0, .int .i64 0, .int .i64 0, .int .i64 0, .int .i64 0, .int .i64 0, .int .i64 0])).run Try.prog w = .ok (.bool true) w := fun w => by
      have h := (eql8 (fun _ => 0) (fun _ => 0)).1 w
      rw [eqB_same (fun _ _ => rfl)] at h
      exact h
    go_wp2
    go_ret
    exact ⟨rfl, hB7.alloc hB7.size _⟩
end Go.Proofs.Ytgkbpdcedighcab
