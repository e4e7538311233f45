/-
  The walk of the law TurnsRound.
-/
import Derived.Test.YtgkbpdcedighcabRRound
import Derived.Test.YtgkbpdcedighcabTurnGB
import Derived.Test.YtgkbpdcedighcabOpenA
namespace Go.Proofs.Ytgkbpdcedighcab
open Go.RowKit Go.Sort

set_option maxRecDepth 100000 in
theorem TurnsRound_0_arg {H : Type} {enc : TypeId × Value → H} {w : World} {base : Nat} {spare : Nat → Bool} {held : Bool} {r : Reach} {b0 : Nat} {v : Value} {d : DataW H} {p : List MemPlace}
    (hv : Value.okWide Try.prog w r b0 24 v) (h : DataW.Trod enc Try.prog w base spare held 24 v d p) : ∃ f : Nat → Int, v = .agg (rowI 4 f).toArray ∧ ∀ i, i < 4 → (Lit.int .i64 (f i)).wf = true :=
  arr_arg Try.underlying24 Try.underlying3 (by kernel_rfl) (by kernel_rfl) hv h
set_option maxRecDepth 100000 in
theorem TurnsRound_1_arg {H : Type} {enc : TypeId × Value → H} {w : World} {base : Nat} {spare : Nat → Bool} {held : Bool} {r : Reach} {b0 : Nat} {v : Value} {d : DataW H} {p : List MemPlace}
    (hv : Value.okWide Try.prog w r b0 24 v) (h : DataW.Trod enc Try.prog w base spare held 24 v d p) : ∃ f : Nat → Int, v = .agg (rowI 4 f).toArray ∧ ∀ i, i < 4 → (Lit.int .i64 (f i)).wf = true := TurnsRound_0_arg hv h

theorem binF_le (f : Nat → Int) (h : ∀ i, i < 4 → -262144 ≤ f i ∧ f i ≤ 262144) (i : Nat) : -1048576 ≤ binF f i ∧ binF f i ≤ 1048576 := by
  have a := h 0 (by decide)
  have b := h 1 (by decide)
  have c := h 2 (by decide)
  have d := h 3 (by decide)
  unfold binF
  split <;> omega
theorem round_k (f g : Nat → Int) (k : Nat) (hk : k < 4) : binF (cvZ f g) (k * 2) = binF f (k * 2) * binF g (k * 2) - binF f (k * 2 + 1) * binF g (k * 2 + 1) ∧ binF (cvZ f g) (k * 2 + 1) = binF f (k * 2) * binF g (k * 2 + 1) + binF f (k * 2 + 1) * binF g (k * 2) := by
  obtain ⟨h0, h1, h2, h3⟩ := bin_round f g
  match k, hk with
  | 0, _ => exact h0
  | 1, _ => exact h1
  | 2, _ => exact h2
  | 3, _ => exact h3

/-- What stands while the three rows are told. -/
def LrI (f g : Nat → Int) (er : Int) (s3 s5 : Nat) (w w6 : World) (L : Nat → Bool) (a : Act) (wr : World) : Prop :=
  ∃ (b0 b1 b2 : Nat) (x9 x10 x11 x37 x38 x39 x40 x41 x42 : Value), a = ⟨#[.agg (rowI 4 f).toArray, .agg (rowI 4 g).toArray, .pointer (some ⟨w.heap.size, 0, none⟩), .pointer (some ⟨w.heap.size + 1, 0, none⟩), .bool false, .pointer (some ⟨s3, 0, none⟩), .int .i64 er, .pointer (some ⟨s5, 0, none⟩), .int .i64 er, x9, x10, x11, undef, .bool true, .bool false, .tuple #[.agg (rowI 4 (rndV f g)).toArray, .int .i64 er], .agg (rowI 4 f).toArray, .agg (rowI 4 g).toArray, .tuple #[.agg (rowI 4 (rndV f g)).toArray, .int .i64 er], .agg (rowI 4 (rndV f g)).toArray, .int .i64 er, .tuple #[.agg (rowI 4 (rndV f g)).toArray, .int .i64 er], .agg (rowI 4 f).toArray, .agg (rowI 4 g).toArray, .tuple #[.agg (rowI 4 (rndV f g)).toArray, .int .i64 er], .agg (rowI 4 (rndV f g)).toArray, .int .i64 er, .int .i64 er, .int .i64 er, .bool false, .bool false, .agg (rowI 4 (rndV f g)).toArray, .agg (rowI 4 (rndV f g)).toArray, .bool false, .bool false, .int .i64 er, .bool false, x37, x38, x39, x40, x41, x42, undef, undef, undef, undef, undef, undef, undef, undef, undef, undef, undef, undef, undef, undef, undef, undef, undef, undef, undef, undef, undef, undef, undef, undef, undef, undef, undef, undef, undef, undef, undef, undef, undef, undef, undef, undef, undef, undef, undef, undef, undef, undef, undef, undef, undef, undef, undef, undef, undef, undef, undef, undef, undef, undef], []⟩ ∧
    (L 0 = true → x37 = .agg (rowI 4 f).toArray) ∧ (L 1 = true → x38 = .agg (rowI 8 (binF f)).toArray) ∧ (L 2 = true → x39 = .agg (rowI 4 g).toArray) ∧ (L 3 = true → x40 = .agg (rowI 8 (binF g)).toArray) ∧ (L 4 = true → x41 = .agg (rowI 4 (rndV f g)).toArray) ∧ (L 5 = true → x42 = .agg (rowI 8 (binF (cvZ f g))).toArray) ∧
    Laid (L 6) (L 9) w6.heap.size x9 b0 23 (rowI 8 fun _ => 0) (rowI 8 (binF f)) wr ∧ Laid (L 7) (L 10) w6.heap.size x10 b1 23 (rowI 8 fun _ => 0) (rowI 8 (binF g)) wr ∧ Laid (L 8) (L 11) w6.heap.size x11 b2 23 (rowI 8 fun _ => 0) (rowI 8 (binF (cvZ f g))) wr ∧
    (L 6 = true → L 7 = true → b0 ≠ b1) ∧ (L 6 = true → L 8 = true → b0 ≠ b2) ∧ (L 7 = true → L 8 = true → b1 ≠ b2) ∧ Below w6.heap.size w6 wr

set_option maxRecDepth 100000 in
set_option maxHeartbeats 8000000 in
theorem TurnsRound_walk (w : World) (f : Nat → Int) (_ : ∀ i, i < 4 → (Lit.int .i64 (f i)).wf = true) (g : Nat → Int) (_ : ∀ i, i < 4 → (Lit.int .i64 (g i)).wf = true) :
    Calls Try.prog 6 #[.agg (rowI 4 f).toArray, .agg (rowI 4 g).toArray] w fun e w' => e = .returned (.bool true) ∧ Below w.heap.size w w' := by
  go_enter Try.func6, Try.ntmps6
  go_wp2_with fail
  refine allocs2 (F := fun w => Calls _ _ _ w _) ?_
  intro w1 hA2 hA3 hB1 _
  replace hA2 : At w1 w.heap.size 24 (rowI 4 f) := hA2
  replace hA3 : At w1 (w.heap.size + 1) 24 (rowI 4 g) := hA3
  refine (live17_any w1).mono ?_
  rintro e w2 ⟨rfl, hb2⟩
  replace hA2 := hA2.below hb2 hA2.lt
  replace hA3 := hA3.below hb2 hA3.lt
  have hB2 := step_below hB1 hb2
  clear hB1 hb2
  go_wp2_with (first
    | (with_reducible refine wpList_load_at rfl 24 (.tmp 2) rfl w.heap.size (by kernel_rfl) 24 (rowI 4 f) hA2 _ Try.underlying24 rfl (by kernel_rfl) ?_)
    | (with_reducible refine wpList_load_at rfl 24 (.tmp 3) rfl (w.heap.size + 1) (by kernel_rfl) 24 (rowI 4 g) hA3 _ Try.underlying24 rfl (by kernel_rfl) ?_))
  refine (Round_any f g w2).mono ?_
  rintro e w3 ⟨rfl, hb3⟩
  have HA2 := Lib.hid (hA2.below hb3 hA2.lt)
  have HA3 := Lib.hid (hA3.below hb3 hA3.lt)
  have HB3 := Lib.hid (step_below hB2 hb3)
  clear hA2 hA3 hB2 hb3
  have h5 : At (w3.alloc (.cells #[.int .i64 0, .int .i64 0, .int .i64 0, .int .i64 0] 24)) w3.heap.size 24 (rowI 4 fun _ => 0) := At.new _ _ _
  go_wp2_with (with_reducible refine wpList_store_row rfl 24 (.tmp 5) (.tmp 19) rfl rfl w3.heap.size (by kernel_rfl) (rowI 4 (rndV f g)) (by kernel_rfl) 24 (rowI 4 fun _ => 0) h5 (by kernel_rfl) (by kernel_rfl) (rowI_one _ _) ?_)
  intro w4 hA5 hU5
  have l2 := HA2.out.lt
  have l3 := HA3.out.lt
  have HA2' := Lib.hid ((HA2.out.alloc _).upd hU5 (by omega))
  have HA3' := Lib.hid ((HA3.out.alloc _).upd hU5 (by omega))
  have HB4 := Lib.hid (step_upd (HB3.out.alloc HB3.out.size _) hU5 (by omega))
  have HA5 := Lib.hid hA5
  clear hA5 hU5 HA2 HA3 HB3 h5
  go_wp2_with (first
    | (with_reducible refine wpList_load_at rfl 24 (.tmp 2) rfl w.heap.size (by kernel_rfl) 24 (rowI 4 f) HA2'.out _ Try.underlying24 rfl (by kernel_rfl) ?_)
    | (with_reducible refine wpList_load_at rfl 24 (.tmp 3) rfl (w.heap.size + 1) (by kernel_rfl) 24 (rowI 4 g) HA3'.out _ Try.underlying24 rfl (by kernel_rfl) ?_))
  refine (RRound_any f g w4).mono ?_
  rintro e w5 ⟨rfl, hb5⟩
  have HA2 := Lib.hid (HA2'.out.below hb5 HA2'.out.lt)
  have HA3 := Lib.hid (HA3'.out.below hb5 HA3'.out.lt)
  have HA5' := Lib.hid (HA5.out.below hb5 HA5.out.lt)
  have HB5 := Lib.hid (step_below HB4.out hb5)
  clear HA2' HA3' HB4 HA5 hb5
  have h7 : At (w5.alloc (.cells #[.int .i64 0, .int .i64 0, .int .i64 0, .int .i64 0] 24)) w5.heap.size 24 (rowI 4 fun _ => 0) := At.new _ _ _
  go_wp2_with (with_reducible refine wpList_store_row rfl 24 (.tmp 7) (.tmp 25) rfl rfl w5.heap.size (by kernel_rfl) (rowI 4 (rndV f g)) (by kernel_rfl) 24 (rowI 4 fun _ => 0) h7 (by kernel_rfl) (by kernel_rfl) (rowI_one _ _) ?_)
  intro w6 hA7 hU7
  have l5 := HA5'.out.lt
  have HA2' := Lib.hid ((HA2.out.alloc _).upd hU7 (by have := HA2.out.lt; omega))
  have HA3' := Lib.hid ((HA3.out.alloc _).upd hU7 (by have := HA3.out.lt; omega))
  have HA5 := Lib.hid ((HA5'.out.alloc _).upd hU7 (by omega))
  have HB6 := Lib.hid (step_upd (HB5.out.alloc HB5.out.size _) hU7 HB5.out.size)
  have HA7 := Lib.hid hA7
  clear hA7 hU7 HA2 HA3 HB5 HA5' h7
  have q1 : ∀ w, (binOp .neq 24 (.agg (rowI 4 (rndV f g)).toArray) (.agg (rowI 4 (rndV f g)).toArray)).run Try.prog w = .ok (.bool false) w := fun w => by
    have h := (eql4 (rndV f g) (rndV f g)).2 w
    rw [eqB_same (fun _ _ => rfl)] at h
    exact h
  have e1 : (rndE f g != rndE f g) = false := by simp
  by_cases hz : rndE f g = 0
  · have hd : (rndE f g != 0) = false := by rw [hz]; rfl
    have HV : Hid (rowI 4 (rndV f g) = rowI 4 (cvZ f g)) := Lib.hid (by unfold rowI; congr 1; funext i; rw [rndV, hz]; rfl)
    have hwf : wrongZ f 4 = 0 := by
      rw [rndE] at hz
      split at hz
      · assumption
      · cases hz
    have hwg : wrongZ g 4 = 0 := by
      rw [rndE, if_pos hwf] at hz
      split at hz
      · assumption
      · cases hz
    have HF := Lib.hid (wrongZ_zero hwf).2
    have HG := Lib.hid (wrongZ_zero hwg).2
    clear hwf hwg hz
    generalize rndE f g = er at *
    go_wp2_with (first
      | (with_reducible refine wpList_load_at_w (by kernel_rfl) 24 (.tmp 5) rfl w3.heap.size (by kernel_rfl) 24 _ HA5.out _ Try.underlying24 rfl (by kernel_rfl) ?_)
      | (with_reducible refine wpList_load_at_w (by kernel_rfl) 24 (.tmp 7) rfl w5.heap.size (by kernel_rfl) 24 _ HA7.out _ Try.underlying24 rfl (by kernel_rfl) ?_))
    have kc : ∀ wr, Calls Try.prog 21 #[.agg (rowI 4 (rndV f g)).toArray] wr fun e w' => e = .returned (.agg (rowI 8 (binF (cvZ f g))).toArray) ∧ Below wr.heap.size wr w' := fun wr => by
      rw [HV.out]
      exact Bins_any (cvZ f g) wr (fun i _ => by have := cv_le f g HF.out HG.out i; omega)
    refine region_inv (LrI f g er w3.heap.size w5.heap.size w w6) (by kernel_rfl) (by kernel_rfl) ?i0 ?steps ?iend
    case i0 =>
      intro L hL
      have no : ∀ i, i < 12 → L i = true → False := fun i hi h => by rw [hL i hi] at h; cases h
      exact ⟨0, 0, 0, _, _, _, _, _, _, _, _, _, rfl, fun h => (no 0 (by decide) h).elim, fun h => (no 1 (by decide) h).elim, fun h => (no 2 (by decide) h).elim, fun h => (no 3 (by decide) h).elim, fun h => (no 4 (by decide) h).elim, fun h => (no 5 (by decide) h).elim,
        Laid.zero (hL 6 (by decide)) (hL 9 (by decide)), Laid.zero (hL 7 (by decide)) (hL 10 (by decide)), Laid.zero (hL 8 (by decide)) (hL 11 (by decide)), fun h => (no 6 (by decide) h).elim, fun h => (no 6 (by decide) h).elim, fun h => (no 7 (by decide) h).elim, ⟨rfl, rfl, rfl, Nat.le_refl _, fun _ _ => rfl⟩⟩
    case steps =>
      simp only [InvSteps]
      refine ⟨?s0, ?s1, ?s2, ?s3, ?s4, ?s5, ?s6, ?s7, ?s8, ?s9, ?s10, ?s11, trivial⟩
      case s0 =>
        intro L a wr hi hd hI
        obtain ⟨b0, b1, b2, x9, x10, x11, x37, x38, x39, x40, x41, x42, rfl, h0, h1, h2, h3, h4, h5, l0, l1, l2, n01, n02, n12, hb⟩ := hI
        dsimp only
        go_wp2_with (with_reducible refine wpList_load_at rfl 24 (.tmp 2) rfl w.heap.size (by kernel_rfl) 24 (rowI 4 f) (HA2'.out.below hb HA2'.out.lt) _ Try.underlying24 rfl (by kernel_rfl) ?_)
        exact ⟨b0, b1, b2, x9, x10, x11, _, x38, x39, x40, x41, x42, rfl, fun _ => rfl, h1, h2, h3, h4, h5, l0, l1, l2, n01, n02, n12, hb⟩
      case s1 =>
        intro L a wr hi hd hI
        obtain ⟨b0, b1, b2, x9, x10, x11, x37, x38, x39, x40, x41, x42, rfl, h0, h1, h2, h3, h4, h5, l0, l1, l2, n01, n02, n12, hb⟩ := hI
        obtain ⟨d0, -⟩ := hd
        obtain rfl := h0 d0
        dsimp only
        go_wp2_with fail
        refine (Bins_any f wr (fun i hi => by have := HF.out i hi; omega)).mono ?_
        rintro e w' ⟨rfl, hb'⟩
        go_wp2_with fail
        exact ⟨b0, b1, b2, x9, x10, x11, _, _, x39, x40, x41, x42, rfl, fun _ => rfl, fun _ => rfl, h2, h3, h4, h5, l0.below hb', l1.below hb', l2.below hb', n01, n02, n12, step_below hb hb'⟩
      case s2 =>
        intro L a wr hi hd hI
        obtain ⟨b0, b1, b2, x9, x10, x11, x37, x38, x39, x40, x41, x42, rfl, h0, h1, h2, h3, h4, h5, l0, l1, l2, n01, n02, n12, hb⟩ := hI
        dsimp only
        go_wp2_with (with_reducible refine wpList_load_at rfl 24 (.tmp 3) rfl (w.heap.size + 1) (by kernel_rfl) 24 (rowI 4 g) (HA3'.out.below hb HA3'.out.lt) _ Try.underlying24 rfl (by kernel_rfl) ?_)
        exact ⟨b0, b1, b2, x9, x10, x11, x37, x38, _, x40, x41, x42, rfl, h0, h1, fun _ => rfl, h3, h4, h5, l0, l1, l2, n01, n02, n12, hb⟩
      case s3 =>
        intro L a wr hi hd hI
        obtain ⟨b0, b1, b2, x9, x10, x11, x37, x38, x39, x40, x41, x42, rfl, h0, h1, h2, h3, h4, h5, l0, l1, l2, n01, n02, n12, hb⟩ := hI
        obtain ⟨d0, -⟩ := hd
        obtain rfl := h2 d0
        dsimp only
        go_wp2_with fail
        refine (Bins_any g wr (fun i hi => by have := HG.out i hi; omega)).mono ?_
        rintro e w' ⟨rfl, hb'⟩
        go_wp2_with fail
        exact ⟨b0, b1, b2, x9, x10, x11, x37, x38, _, _, x41, x42, rfl, h0, h1, fun _ => rfl, fun _ => rfl, h4, h5, l0.below hb', l1.below hb', l2.below hb', n01, n02, n12, step_below hb hb'⟩
      case s4 =>
        intro L a wr hi hd hI
        obtain ⟨b0, b1, b2, x9, x10, x11, x37, x38, x39, x40, x41, x42, rfl, h0, h1, h2, h3, h4, h5, l0, l1, l2, n01, n02, n12, hb⟩ := hI
        dsimp only
        go_wp2_with (with_reducible refine wpList_load_at rfl 24 (.tmp 5) rfl w3.heap.size (by kernel_rfl) 24 (rowI 4 (rndV f g)) (HA5.out.below hb HA5.out.lt) _ Try.underlying24 rfl (by kernel_rfl) ?_)
        exact ⟨b0, b1, b2, x9, x10, x11, x37, x38, x39, x40, _, x42, rfl, h0, h1, h2, h3, fun _ => rfl, h5, l0, l1, l2, n01, n02, n12, hb⟩
      case s5 =>
        intro L a wr hi hd hI
        obtain ⟨b0, b1, b2, x9, x10, x11, x37, x38, x39, x40, x41, x42, rfl, h0, h1, h2, h3, h4, h5, l0, l1, l2, n01, n02, n12, hb⟩ := hI
        obtain ⟨d0, -⟩ := hd
        obtain rfl := h4 d0
        dsimp only
        go_wp2_with fail
        refine (kc wr).mono ?_
        rintro e w' ⟨rfl, hb'⟩
        go_wp2_with fail
        exact ⟨b0, b1, b2, x9, x10, x11, x37, x38, x39, x40, _, _, rfl, h0, h1, h2, h3, fun _ => rfl, fun _ => rfl, l0.below hb', l1.below hb', l2.below hb', n01, n02, n12, step_below hb hb'⟩
      case s6 =>
        intro L a wr hi hd hI
        obtain ⟨b0, b1, b2, x9, x10, x11, x37, x38, x39, x40, x41, x42, rfl, h0, h1, h2, h3, h4, h5, l0, l1, l2, n01, n02, n12, hb⟩ := hI
        dsimp only
        go_wp2_with fail
        exact ⟨wr.heap.size, b1, b2, _, x10, x11, x37, x38, x39, x40, x41, x42, rfl, h0, h1, h2, h3, h4, h5, l0.made hi hb.size, l1.below ((Below.refl _ wr).alloc (Nat.le_refl _) _), l2.below ((Below.refl _ wr).alloc (Nat.le_refl _) _), fun _ h => by have := l1.lt h; omega, fun _ h => by have := l2.lt h; omega, n12, step_below hb ((Below.refl _ wr).alloc (Nat.le_refl _) _)⟩
      case s7 =>
        intro L a wr hi hd hI
        obtain ⟨b0, b1, b2, x9, x10, x11, x37, x38, x39, x40, x41, x42, rfl, h0, h1, h2, h3, h4, h5, l0, l1, l2, n01, n02, n12, hb⟩ := hI
        dsimp only
        go_wp2_with fail
        exact ⟨b0, wr.heap.size, b2, x9, _, x11, x37, x38, x39, x40, x41, x42, rfl, h0, h1, h2, h3, h4, h5, l0.below ((Below.refl _ wr).alloc (Nat.le_refl _) _), l1.made hi hb.size, l2.below ((Below.refl _ wr).alloc (Nat.le_refl _) _), fun h _ => by have := l0.lt h; omega, n02, fun _ h => by have := l2.lt h; omega, step_below hb ((Below.refl _ wr).alloc (Nat.le_refl _) _)⟩
      case s8 =>
        intro L a wr hi hd hI
        obtain ⟨b0, b1, b2, x9, x10, x11, x37, x38, x39, x40, x41, x42, rfl, h0, h1, h2, h3, h4, h5, l0, l1, l2, n01, n02, n12, hb⟩ := hI
        dsimp only
        go_wp2_with fail
        exact ⟨b0, b1, wr.heap.size, x9, x10, _, x37, x38, x39, x40, x41, x42, rfl, h0, h1, h2, h3, h4, h5, l0.below ((Below.refl _ wr).alloc (Nat.le_refl _) _), l1.below ((Below.refl _ wr).alloc (Nat.le_refl _) _), l2.made hi hb.size, n01, fun h _ => by have := l0.lt h; omega, fun h _ => by have := l1.lt h; omega, step_below hb ((Below.refl _ wr).alloc (Nat.le_refl _) _)⟩
      case s9 =>
        intro L a wr hi hd hI
        obtain ⟨b0, b1, b2, x9, x10, x11, x37, x38, x39, x40, x41, x42, rfl, h0, h1, h2, h3, h4, h5, l0, l1, l2, n01, n02, n12, hb⟩ := hI
        obtain ⟨da, dc, -⟩ := hd
        obtain rfl := h1 dc
        obtain ⟨ee, l0⟩ := l0
        obtain ⟨rfl, lo, hA⟩ := l0 da
        rw [hi, if_neg (by decide)] at hA
        dsimp only
        go_wp2_with (with_reducible refine wpList_store_row rfl 23 (.tmp 9) (.tmp 38) rfl rfl b0 (by kernel_rfl) (rowI 8 (binF f)) (by kernel_rfl) 23 (rowI 8 fun _ => 0) hA (by kernel_rfl) (by kernel_rfl) (rowI_one _ _) ?_)
        intro w8 hA5 hU5
        go_wp2_with fail
        exact ⟨b0, b1, b2, _, x10, x11, x37, _, x39, x40, x41, x42, rfl, h0, fun _ => rfl, h2, h3, h4, h5, ⟨fun _ => da, fun _ => ⟨rfl, lo, hA5⟩⟩, l1.upd hU5 (fun h => (n01 da h).symm), l2.upd hU5 (fun h => (n02 da h).symm), n01, n02, n12, step_upd hb hU5 lo⟩
      case s10 =>
        intro L a wr hi hd hI
        obtain ⟨b0, b1, b2, x9, x10, x11, x37, x38, x39, x40, x41, x42, rfl, h0, h1, h2, h3, h4, h5, l0, l1, l2, n01, n02, n12, hb⟩ := hI
        obtain ⟨da, dc, -⟩ := hd
        obtain rfl := h3 dc
        obtain ⟨ee, l1⟩ := l1
        obtain ⟨rfl, lo, hA⟩ := l1 da
        rw [hi, if_neg (by decide)] at hA
        dsimp only
        go_wp2_with (with_reducible refine wpList_store_row rfl 23 (.tmp 10) (.tmp 40) rfl rfl b1 (by kernel_rfl) (rowI 8 (binF g)) (by kernel_rfl) 23 (rowI 8 fun _ => 0) hA (by kernel_rfl) (by kernel_rfl) (rowI_one _ _) ?_)
        intro w8 hA5 hU5
        go_wp2_with fail
        exact ⟨b0, b1, b2, x9, _, x11, x37, x38, x39, _, x41, x42, rfl, h0, h1, h2, fun _ => rfl, h4, h5, l0.upd hU5 (fun h => n01 h da), ⟨fun _ => da, fun _ => ⟨rfl, lo, hA5⟩⟩, l2.upd hU5 (fun h => (n12 da h).symm), n01, n02, n12, step_upd hb hU5 lo⟩
      case s11 =>
        intro L a wr hi hd hI
        obtain ⟨b0, b1, b2, x9, x10, x11, x37, x38, x39, x40, x41, x42, rfl, h0, h1, h2, h3, h4, h5, l0, l1, l2, n01, n02, n12, hb⟩ := hI
        obtain ⟨da, dc, -⟩ := hd
        obtain rfl := h5 dc
        obtain ⟨ee, l2⟩ := l2
        obtain ⟨rfl, lo, hA⟩ := l2 da
        rw [hi, if_neg (by decide)] at hA
        dsimp only
        go_wp2_with (with_reducible refine wpList_store_row rfl 23 (.tmp 11) (.tmp 42) rfl rfl b2 (by kernel_rfl) (rowI 8 (binF (cvZ f g))) (by kernel_rfl) 23 (rowI 8 fun _ => 0) hA (by kernel_rfl) (by kernel_rfl) (rowI_one _ _) ?_)
        intro w8 hA5 hU5
        go_wp2_with fail
        exact ⟨b0, b1, b2, x9, x10, _, x37, x38, x39, x40, x41, _, rfl, h0, h1, h2, h3, h4, fun _ => rfl, l0.upd hU5 (fun h => n02 h da), l1.upd hU5 (fun h => n12 h da), ⟨fun _ => da, fun _ => ⟨rfl, lo, hA5⟩⟩, n01, n02, n12, step_upd hb hU5 lo⟩
    case iend =>
      rintro a wr ⟨b0, b1, b2, x9, x10, x11, x37, x38, x39, x40, x41, x42, rfl, h0, h1, h2, h3, h4, h5, ⟨-, l0⟩, ⟨-, l1⟩, ⟨-, l2⟩, n01, n02, n12, hb⟩
      obtain rfl := h0 rfl
      obtain rfl := h1 rfl
      obtain rfl := h2 rfl
      obtain rfl := h3 rfl
      obtain rfl := h4 rfl
      obtain rfl := h5 rfl
      obtain ⟨rfl, lb0, hR0⟩ := l0 rfl
      obtain ⟨rfl, lb1, hR1⟩ := l1 rfl
      obtain ⟨rfl, lb2, hR2⟩ := l2 rfl
      replace hR0 : At wr b0 23 (rowI 8 (binF f)) := hR0
      replace hR1 : At wr b1 23 (rowI 8 (binF g)) := hR1
      replace hR2 : At wr b2 23 (rowI 8 (binF (cvZ f g))) := hR2
      have hB7 := step_below HB6.out hb
      clear h0 h1 h2 h3 h4 h5 l0 l1 l2 n01 n02 n12 hb HA2' HA3' HA5 HA7 HB6 HV kc
      have HR0 := Lib.hid hR0
      have HR1 := Lib.hid hR1
      have HR2 := Lib.hid hR2
      have HB7 := Lib.hid hB7
      clear hR0 hR1 hR2 hB7
      dsimp only
      go_wp2_with fail
      go_loopw [12] (fun i wr => ∃ k : Nat, k ≤ 4 ∧ i = .int .i64 k ∧ Hid (At wr b0 23 (rowI 8 (binF f))) ∧ Hid (At wr b1 23 (rowI 8 (binF g))) ∧ Hid (At wr b2 23 (rowI 8 (binF (cvZ f g)))) ∧ Hid (Below w.heap.size w wr)) (fun i _ => 4 - (intOf i).toNat)
      case atStart => exact ⟨0, by omega, rfl, HR0, HR1, HR2, HB7⟩
      case round =>
        clear HR0 HR1 HR2 HB7
        obtain ⟨k, hk, rfl, HR0, HR1, HR2, HB7⟩ := hrel
        by_cases hlt : k < 4
        · have c0 := HR0.out.cell (k * 2) (rowF_get (by omega))
          have c1 := HR0.out.cell (k * 2 + 1) (rowF_get (by omega))
          have c2 := HR1.out.cell (k * 2) (rowF_get (by omega))
          have c3 := HR1.out.cell (k * 2 + 1) (rowF_get (by omega))
          have c4 := HR2.out.cell (k * 2) (rowF_get (by omega))
          have c5 := HR2.out.cell (k * 2 + 1) (rowF_get (by omega))
          have hr := round_k f g k hlt
          have p0 := binF_le f HF.out (k * 2)
          have p1 := binF_le f HF.out (k * 2 + 1)
          have p2 := binF_le g HG.out (k * 2)
          have p3 := binF_le g HG.out (k * 2 + 1)
          have m1 := mul_le40 _ _ p0 p2
          have m2 := mul_le40 _ _ p1 p3
          have m3 := mul_le40 _ _ p0 p3
          have m4 := mul_le40 _ _ p1 p2
          have hk0 : (0 : Int) ≤ (k : Int) := by omega
          have hk4 : (k : Int) < 4 := by omega
          generalize binF f (k * 2) = x0 at *
          generalize binF f (k * 2 + 1) = x1 at *
          generalize binF g (k * 2) = y0 at *
          generalize binF g (k * 2 + 1) = y1 at *
          generalize binF (cvZ f g) (k * 2) = z0 at *
          generalize binF (cvZ f g) (k * 2 + 1) = z1 at *
          obtain ⟨rfl, rfl⟩ := hr
          clear p0 p1 p2 p3
          go_wp2_with fail
          refine wp_region_quiet_lit (by kernel_rfl) (by kernel_rfl) ?_
          repeat (go_big_quiet_step (fail))
          refine wpQuiet_nil ?_
          intro _ hw'
          obtain ⟨nq, rfl⟩ := hw'
          clear c0 c1 c2 c3 c4 c5 m1 m2 m3 m4
          go_wp2
          go_roundw
          case rel => exact ⟨k + 1, by omega, by go_num, Lib.hid (HR0.out.drewN nq), Lib.hid (HR1.out.drewN nq), Lib.hid (HR2.out.drewN nq), Lib.hid (belowN HB7.out nq)⟩
          case measure => simp [intOf]; omega
        · obtain rfl : k = 4 := by omega
          go_wp2
          go_ret
          exact ⟨rfl, HB7.out⟩
  · have hd : (rndE f g != 0) = true := by rw [bne_iff_ne]; exact hz
    clear hz
    generalize rndE f g = er at *
    go_wp2_with (first
      | (with_reducible refine wpList_load_at_w (by kernel_rfl) 24 (.tmp 5) rfl w3.heap.size (by kernel_rfl) 24 _ HA5.out _ Try.underlying24 rfl (by kernel_rfl) ?_)
      | (with_reducible refine wpList_load_at_w (by kernel_rfl) 24 (.tmp 7) rfl w5.heap.size (by kernel_rfl) 24 _ HA7.out _ Try.underlying24 rfl (by kernel_rfl) ?_))
    go_ret
    exact ⟨rfl, HB6.out⟩
end Go.Proofs.Ytgkbpdcedighcab
