/-
  The walk of turns.Round.
-/
import Derived.Test.YtgkbpdcedighcabRoundP
import Derived.Test.YtgkbpdcedighcabOfB
import Derived.Test.YtgkbpdcedighcabTurnL
import Derived.Test.YtgkbpdcedighcabRegionI
namespace Go.Proofs.Ytgkbpdcedighcab
open Go.RowKit Go.Sort

def rndE (f g : Nat → Int) : Int := if wrongZ f 4 = 0 then (if wrongZ g 4 = 0 then 0 else 1) else 1
def rndV (f g : Nat → Int) (n : Nat) : Int := if rndE f g = 0 then cvZ f g n else 0

theorem bin_le (f : Nat → Int) (h : ∀ i, i < 4 → -262144 ≤ f i ∧ f i ≤ 262144) (k : Nat) : (-1048576 ≤ (binZ f k 4).1 ∧ (binZ f k 4).1 ≤ 1048576) ∧ (-1048576 ≤ (binZ f k 4).2 ∧ (binZ f k 4).2 ≤ 1048576) := by
  have := binZ_le f k 262144 4 h
  omega
theorem mul_le40 (x y : Int) (hx : -1048576 ≤ x ∧ x ≤ 1048576) (hy : -1048576 ≤ y ∧ y ≤ 1048576) : -1099511627776 ≤ x * y ∧ x * y ≤ 1099511627776 := by
  have h1 : x.natAbs * y.natAbs ≤ 1048576 * 1048576 := Nat.mul_le_mul (by omega) (by omega)
  have h2 : (x * y).natAbs = x.natAbs * y.natAbs := Int.natAbs_mul x y
  omega

theorem belowN {b : Nat} {w w' : World} (h : RowKit.Below b w w') (n : Nat) : RowKit.Below b w (w'.drewN n) := ⟨h.os, h.tape, h.output, h.size, h.block⟩
abbrev bF (f : Nat → Int) : List Value := rowF 4 fun k => cx (smB f k 4)
abbrev bZ : List Value := rowF 4 fun _ => cx (0, 0)
theorem bF_one (f : Nat → Int) : ∀ v ∈ bF f, v.oneCell' = true := rowF_all fun _ _ => rfl
theorem partF_ge {α : Type} {f g : Nat → α} {k i : Nat} (h : k ≤ i) : partF f g k i = g i := by unfold partF; rw [if_neg (by omega)]
/-- What stands while both rows are turned. -/
def RdI (f g : Nat → Int) (w w1 : World) (L : Nat → Bool) (a : Act) (wr : World) : Prop :=
  ∃ (b6 b7 : Nat) (x6 x7 x21 x22 x23 x24 : Value), a = ⟨#[.agg (rowI 4 f).toArray, .agg (rowI 4 g).toArray, .pointer (some ⟨w.heap.size, 0, none⟩), .pointer (some ⟨w.heap.size + 1, 0, none⟩), .pointer (some ⟨w.heap.size + 1 + 1, 0, none⟩), .int .i64 0, x6, x7, undef, undef, undef, undef, .slice (some ⟨w.heap.size, 0, none⟩) 4 4, .int .i64 0, .bool false, .bool false, .slice (some ⟨w.heap.size + 1, 0, none⟩) 4 4, .int .i64 0, .bool false, .bool false, undef, x21, x22, x23, x24, undef, undef, undef, undef, undef, undef, undef, undef, undef, undef, undef, undef, undef, undef, undef, undef, undef, undef, undef, undef, undef, undef, undef, undef, undef, undef, undef], []⟩ ∧
    (L 0 = true → x21 = .slice (some ⟨w.heap.size, 0, none⟩) 4 4) ∧ (L 1 = true → x22 = .agg (bF f).toArray) ∧ (L 2 = true → x23 = .slice (some ⟨w.heap.size + 1, 0, none⟩) 4 4) ∧ (L 3 = true → x24 = .agg (bF g).toArray) ∧
    Laid (L 4) (L 6) w1.heap.size x6 b6 79 bZ (bF f) wr ∧ Laid (L 5) (L 7) w1.heap.size x7 b7 79 bZ (bF g) wr ∧ (L 4 = true → L 5 = true → b6 ≠ b7) ∧ Below w1.heap.size w1 wr

theorem cv_le (f g : Nat → Int) (hf : ∀ i, i < 4 → -262144 ≤ f i ∧ f i ≤ 262144) (hg : ∀ i, i < 4 → -262144 ≤ g i ∧ g i ≤ 262144) (j : Nat) : -274877906944 ≤ cvZ f g j ∧ cvZ f g j ≤ 274877906944 := by
  have m := fun (x y : Nat) (hx : x < 4) (hy : y < 4) => mul_le36 _ _ (hf x hx) (hg y hy)
  match j with
  | 0 => have a := m 0 0 (by decide) (by decide); have b := m 1 3 (by decide) (by decide); have c := m 2 2 (by decide) (by decide); have d := m 3 1 (by decide) (by decide); simp only [cvZ]; omega
  | 1 => have a := m 0 1 (by decide) (by decide); have b := m 1 0 (by decide) (by decide); have c := m 2 3 (by decide) (by decide); have d := m 3 2 (by decide) (by decide); simp only [cvZ]; omega
  | 2 => have a := m 0 2 (by decide) (by decide); have b := m 1 1 (by decide) (by decide); have c := m 2 0 (by decide) (by decide); have d := m 3 3 (by decide) (by decide); simp only [cvZ]; omega
  | j + 3 => have a := m 0 3 (by decide) (by decide); have b := m 1 2 (by decide) (by decide); have c := m 2 1 (by decide) (by decide); have d := m 3 0 (by decide) (by decide); simp only [cvZ]; omega

set_option maxRecDepth 100000 in
set_option maxHeartbeats 8000000 in
theorem Round_any (f g : Nat → Int) (w : World) :
    Calls Try.prog 22 #[.agg (rowI 4 f).toArray, .agg (rowI 4 g).toArray] w fun e w' => e = .returned (.tuple #[.agg (rowI 4 (rndV f g)).toArray, .int .i64 (rndE f g)]) ∧ Below w.heap.size w w' := by
  go_enter Try.func22, Try.ntmps22
  go_wp2_with fail
  refine allocs3 (F := fun w => Calls _ _ _ w _) ?_
  intro w1 hA2 hA3 hA4 hB1 hs1
  replace hA2 : At w1 w.heap.size 24 (rowI 4 f) := hA2
  replace hA3 : At w1 (w.heap.size + 1) 24 (rowI 4 g) := hA3
  replace hA4 : At w1 (w.heap.size + 1 + 1) 24 (rowI 4 fun _ => 0) := hA4
  have HA2 := Lib.hid hA2
  have HA3 := Lib.hid hA3
  have HA4 := Lib.hid hA4
  have HB1 := Lib.hid hB1
  clear hA2 hA3 hA4 hB1
  refine (Wrong_any (some ⟨w.heap.size, 0, none⟩) 4 4 f w1 (ints_at HA2.out) (by omega)).mono ?_
  rintro e _ ⟨rfl, rfl⟩
  have bad : rndE f g = 1 → rowI 4 (rndV f g) = rowI 4 fun _ => 0 := fun h => by unfold rowI; congr 1; funext i; rw [rndV, h]; rfl
  by_cases h0 : wrongZ f 4 = 0
  · have hf := (wrongZ_zero h0).2
    have HF := Lib.hid hf
    rw [h0]
    go_wp2_with fail
    refine (Wrong_any (some ⟨w.heap.size + 1, 0, none⟩) 4 4 g w1 (ints_at HA3.out) (by omega)).mono ?_
    rintro e _ ⟨rfl, rfl⟩
    by_cases h1 : wrongZ g 4 = 0
    · have hg := (wrongZ_zero h1).2
      have HG := Lib.hid hg
      have HE : Hid (rndE f g = 0) := Lib.hid (by rw [rndE, if_pos h0, if_pos h1])
      have HV : Hid (rowI 4 (rndV f g) = rowI 4 (cvZ f g)) := Lib.hid (by unfold rowI; congr 1; funext i; rw [rndV, HE.out]; rfl)
      rw [h1]
      clear hf hg h0 h1 bad
      go_wp2_with fail
      refine region_inv (RdI f g w w1) (by kernel_rfl) (by kernel_rfl) ?i0 ?steps ?iend
      case i0 =>
        intro L hL
        exact ⟨0, 0, _, _, _, _, _, _, rfl, fun h => (by rw [hL 0 (by decide)] at h; cases h), fun h => (by rw [hL 1 (by decide)] at h; cases h), fun h => (by rw [hL 2 (by decide)] at h; cases h), fun h => (by rw [hL 3 (by decide)] at h; cases h),
          Laid.zero (hL 4 (by decide)) (hL 6 (by decide)), Laid.zero (hL 5 (by decide)) (hL 7 (by decide)), fun h => (by rw [hL 4 (by decide)] at h; cases h), ⟨rfl, rfl, rfl, Nat.le_refl _, fun _ _ => rfl⟩⟩
      case steps =>
        simp only [InvSteps]
        refine ⟨?s0, ?s1, ?s2, ?s3, ?s4, ?s5, ?s6, ?s7, trivial⟩
        case s0 =>
          intro L a wr hi hd hI
          obtain ⟨b6, b7, x6, x7, x21, x22, x23, x24, rfl, h0, h1, h2, h3, h4, h5, hn, hb⟩ := hI
          go_wp2_with fail
          exact ⟨b6, b7, x6, x7, _, x22, x23, x24, rfl, fun _ => rfl, h1, h2, h3, h4, h5, hn, hb⟩
        case s1 =>
          intro L a wr hi hd hI
          obtain ⟨b6, b7, x6, x7, x21, x22, x23, x24, rfl, h0, h1, h2, h3, h4, h5, hn, hb⟩ := hI
          obtain ⟨d0, -⟩ := hd
          obtain rfl := h0 d0
          dsimp only
          go_wp2_with fail
          refine (of_is (some ⟨w.heap.size, 0, none⟩) 4 4 f wr (ints_at (HA2.out.below hb HA2.out.lt)) (by omega) HF.out).mono ?_
          rintro e w' ⟨rfl, hb'⟩
          go_wp2_with fail
          exact ⟨b6, b7, x6, x7, _, _, x23, x24, rfl, fun _ => rfl, fun _ => rfl, h2, h3, h4.below hb', h5.below hb', hn, step_below hb hb'⟩
        case s2 =>
          intro L a wr hi hd hI
          obtain ⟨b6, b7, x6, x7, x21, x22, x23, x24, rfl, h0, h1, h2, h3, h4, h5, hn, hb⟩ := hI
          dsimp only
          go_wp2_with fail
          exact ⟨b6, b7, x6, x7, x21, x22, _, x24, rfl, h0, h1, fun _ => rfl, h3, h4, h5, hn, hb⟩
        case s3 =>
          intro L a wr hi hd hI
          obtain ⟨b6, b7, x6, x7, x21, x22, x23, x24, rfl, h0, h1, h2, h3, h4, h5, hn, hb⟩ := hI
          obtain ⟨d2, -⟩ := hd
          obtain rfl := h2 d2
          dsimp only
          go_wp2_with fail
          refine (of_is (some ⟨w.heap.size + 1, 0, none⟩) 4 4 g wr (ints_at (HA3.out.below hb HA3.out.lt)) (by omega) HG.out).mono ?_
          rintro e w' ⟨rfl, hb'⟩
          go_wp2_with fail
          exact ⟨b6, b7, x6, x7, x21, x22, _, _, rfl, h0, h1, fun _ => rfl, fun _ => rfl, h4.below hb', h5.below hb', hn, step_below hb hb'⟩
        case s4 =>
          intro L a wr hi hd hI
          obtain ⟨b6, b7, x6, x7, x21, x22, x23, x24, rfl, h0, h1, h2, h3, h4, h5, hn, hb⟩ := hI
          dsimp only
          go_wp2_with fail
          exact ⟨wr.heap.size, b7, _, x7, x21, x22, x23, x24, rfl, h0, h1, h2, h3, h4.made hi hb.size, h5.below ((Below.refl _ wr).alloc (Nat.le_refl _) _), fun _ h => by have := h5.lt h; omega, step_below hb ((Below.refl _ wr).alloc (Nat.le_refl _) _)⟩
        case s5 =>
          intro L a wr hi hd hI
          obtain ⟨b6, b7, x6, x7, x21, x22, x23, x24, rfl, h0, h1, h2, h3, h4, h5, hn, hb⟩ := hI
          dsimp only
          go_wp2_with fail
          exact ⟨b6, wr.heap.size, x6, _, x21, x22, x23, x24, rfl, h0, h1, h2, h3, h4.below ((Below.refl _ wr).alloc (Nat.le_refl _) _), h5.made hi hb.size, fun h _ => by have := h4.lt h; omega, step_below hb ((Below.refl _ wr).alloc (Nat.le_refl _) _)⟩
        case s6 =>
          intro L a wr hi hd hI
          obtain ⟨b6, b7, x6, x7, x21, x22, x23, x24, rfl, h0, h1, h2, h3, h4, h5, hn, hb⟩ := hI
          obtain ⟨d4, d1, -⟩ := hd
          obtain rfl := h1 d1
          obtain ⟨e4, h4⟩ := h4
          obtain ⟨rfl, l4, hA⟩ := h4 d4
          rw [hi, if_neg (by decide)] at hA
          dsimp only
          go_wp2_with (with_reducible refine wpList_store_row rfl 79 (.tmp 6) (.tmp 22) rfl rfl b6 (by kernel_rfl) (bF f) (by kernel_rfl) 79 bZ hA (by kernel_rfl) (by kernel_rfl) (bF_one f) ?_)
          intro w5 hA5 hU5
          go_wp2_with fail
          exact ⟨b6, b7, _, x7, x21, _, x23, x24, rfl, h0, fun _ => rfl, h2, h3, ⟨fun _ => d4, fun _ => ⟨rfl, l4, hA5⟩⟩, h5.upd hU5 (fun h => (hn d4 h).symm), hn, step_upd hb hU5 l4⟩
        case s7 =>
          intro L a wr hi hd hI
          obtain ⟨b6, b7, x6, x7, x21, x22, x23, x24, rfl, h0, h1, h2, h3, h4, h5, hn, hb⟩ := hI
          obtain ⟨d5, d3, -⟩ := hd
          obtain rfl := h3 d3
          obtain ⟨e5, h5⟩ := h5
          obtain ⟨rfl, l5, hA⟩ := h5 d5
          rw [hi, if_neg (by decide)] at hA
          dsimp only
          go_wp2_with (with_reducible refine wpList_store_row rfl 79 (.tmp 7) (.tmp 24) rfl rfl b7 (by kernel_rfl) (bF g) (by kernel_rfl) 79 bZ hA (by kernel_rfl) (by kernel_rfl) (bF_one g) ?_)
          intro w5 hA5 hU5
          go_wp2_with fail
          exact ⟨b6, b7, x6, _, x21, x22, x23, _, rfl, h0, h1, h2, fun _ => rfl, h4.upd hU5 (fun h => hn h d5), ⟨fun _ => d5, fun _ => ⟨rfl, l5, hA5⟩⟩, hn, step_upd hb hU5 l5⟩
      case iend =>
        rintro a wr ⟨b6, b7, x6, x7, x21, x22, x23, x24, rfl, h0, h1, h2, h3, h4, h5, hn, hb⟩
        obtain rfl := h0 rfl
        obtain rfl := h1 rfl
        obtain rfl := h2 rfl
        obtain rfl := h3 rfl
        obtain ⟨-, h4⟩ := h4
        obtain ⟨rfl, lb6, hA6⟩ := h4 rfl
        obtain ⟨-, h5⟩ := h5
        obtain ⟨rfl, lb7, hA7⟩ := h5 rfl
        replace hA6 : At wr b6 79 (bF f) := hA6
        replace hA7 : At wr b7 79 (bF g) := hA7
        replace hn : b6 ≠ b7 := hn rfl rfl
        have hsz := hs1
        have HX6 : Hid (BinAt wr b6 (partF (prZ f g) (fun j => binZ f j 4) 0)) := Lib.hid ⟨_, hA6, fun j hj => ⟨_, _, rfl, (smB_is f j 4 (by omega) HF.out 4 (Nat.le_refl _)).1, (smB_is f j 4 (by omega) HF.out 4 (Nat.le_refl _)).2⟩⟩
        have HX7 : Hid (BinAt wr b7 (fun j => binZ g j 4)) := Lib.hid ⟨_, hA7, fun j hj => ⟨_, _, rfl, (smB_is g j 4 (by omega) HG.out 4 (Nat.le_refl _)).1, (smB_is g j 4 (by omega) HG.out 4 (Nat.le_refl _)).2⟩⟩
        have HA4' := Lib.hid (HA4.out.below hb HA4.out.lt)
        have HB4 := Lib.hid (step_below HB1.out hb)
        have HN := Lib.hid hn
        clear h0 h1 h2 h3 h4 h5 hb hA6 hA7 HA2 HA3 HA4 HB1 hn
        dsimp only
        go_wp2_with fail
        go_loopw [25] (fun i wr => ∃ k : Nat, k ≤ 4 ∧ i = .int .i64 k ∧ Hid (BinAt wr b6 (partF (prZ f g) (fun j => binZ f j 4) k)) ∧ Hid (BinAt wr b7 (fun j => binZ g j 4)) ∧ Hid (At wr (w.heap.size + 1 + 1) 24 (rowI 4 fun _ => 0)) ∧ Hid (Below w.heap.size w wr)) (fun i _ => 4 - (intOf i).toNat)
        case atStart => exact ⟨0, by omega, rfl, HX6, HX7, HA4', HB4⟩
        case round =>
          clear HX6 HX7 HA4' HB4
          obtain ⟨k, hk, rfl, HX6, HX7, HA4, HB4⟩ := hrel
          by_cases hlt : k < 4
          · obtain ⟨us, hA6, hC6⟩ := HX6.out
            obtain ⟨vs, hA7, hC7⟩ := HX7.out
            obtain ⟨a, b, ea, ia, ib⟩ := hC6 k hlt
            obtain ⟨c, d, ec, ic, id⟩ := hC7 k hlt
            rw [partF_ge (by omega)] at ia ib
            replace ic : F64.Is c (binZ g k 4).1 := ic
            replace id : F64.Is d (binZ g k 4).2 := id
            have bf := bin_le f HF.out k
            have bg := bin_le g HG.out k
            have m1 := mul_le40 _ _ bf.1 bg.1
            have m2 := mul_le40 _ _ bf.2 bg.2
            have m3 := mul_le40 _ _ bf.1 bg.2
            have m4 := mul_le40 _ _ bf.2 bg.1
            obtain ⟨re, im, i1, i2, hmul⟩ := cmul_fact (P := Try.prog) ia ib ic id (by omega) (by omega) (by omega) (by omega)
            have c6 : wr.cell? ⟨b6, k, none⟩ = some (.complex .f64 a b) := by rw [← ea]; exact hA6.cell k (rowF_get hlt)
            have c7 : wr.cell? ⟨b7, k, none⟩ = some (.complex .f64 c d) := by rw [← ec]; exact hA7.cell k (rowF_get hlt)
            have hk0 : (0 : Int) ≤ (k : Int) := by omega
            have hk4 : (k : Int) < 4 := by omega
            have HC6 : Hid (∀ j, j < 4 → CZ ((fun i => if i = k then .complex .f64 re im else us i) j) (partF (prZ f g) (fun j => binZ f j 4) (k + 1) j).1 (partF (prZ f g) (fun j => binZ f j 4) (k + 1) j).2) := Lib.hid fun j hj => by
              by_cases hjk : j = k
              · subst hjk
                simp only [if_pos, partF, Nat.lt_succ_self]
                exact ⟨_, _, rfl, i1, i2⟩
              · have h1 := hC6 j hj
                have e1 : partF (prZ f g) (fun j => binZ f j 4) (k + 1) j = partF (prZ f g) (fun j => binZ f j 4) k j := by
                  unfold partF
                  by_cases h2 : j < k
                  · simp [h2, Nat.lt_succ_of_lt h2]
                  · simp [h2, show ¬ j < k + 1 by omega]
                rw [e1]; simpa [hjk] using h1
            clear hC6 hC7 ea ec ia ib ic id bf bg m1 m2 m3 m4 i1 i2 hA7
            go_wp2_with fail
            refine region_drew_tail 8 (by kernel_rfl) (by kernel_rfl) ?_
            simp only [List.take_succ_cons, List.take_zero, List.drop_succ_cons, List.drop_zero]
            repeat (go_big_quiet_step ((fail)))
            refine wpQuiet_nil ?_
            intro _ hw'
            obtain ⟨nq, rfl⟩ := hw'
            go_wp2_with (with_reducible refine wpList_store_cell rfl 77 (.tmp 35) (.tmp 34) rfl rfl b6 k rfl (.complex .f64 re im) rfl 79 (rowF 4 us) (hA6.drewN nq) (by simp [hlt]) (by kernel_rfl) rfl rfl ?_)
            intro w3 hA3 hU3
            have HX6' : Hid (BinAt w3 b6 (partF (prZ f g) (fun j => binZ f j 4) (k + 1))) := Lib.hid ⟨_, hA3.of_eq (rowF_set _ hlt), HC6.out⟩
            have HX7' : Hid (BinAt w3 b7 (fun j => binZ g j 4)) := by
              obtain ⟨vs, h1, h2⟩ := HX7.out
              exact Lib.hid ⟨vs, (h1.drewN nq).upd hU3 (fun h => HN.out h.symm), h2⟩
            have HA4' := Lib.hid ((HA4.out.drewN nq).upd hU3 (by omega))
            have HB4' := Lib.hid (step_upd (belowN HB4.out nq) hU3 (by omega))
            clear hA3 hU3 HC6 HX6 HX7 HA4 HB4 hA6
            go_wp2
            go_roundw
            case rel => exact ⟨k + 1, by omega, by go_num, HX6', HX7', HA4', HB4'⟩
            case measure => simp [intOf]; omega
          · obtain rfl : k = 4 := by omega
            obtain ⟨vs, hA, hC⟩ := HX6.out
            have HC : Hid (∀ k, k < 4 → CZ (vs k) (prZ f g k).1 (prZ f g k).2) := Lib.hid fun k hk => by have := hC k hk; simpa [partF, hk] using this
            have hlt6 := hA.lt
            clear hC HX6 HX7
            go_wp2_with (with_reducible refine wpList_load_at rfl 79 (.tmp 6) rfl b6 (by kernel_rfl) 79 (rowF 4 vs) (hA.alloc _) _ Try.underlying79 rfl (by kernel_rfl) ?_)
            refine allocs1 (F := fun w => Calls _ _ _ w _) ?_
            intro w3 hA7 hB7 _
            have hA3 := HA4.out.below hB7 HA4.out.lt
            have hB3 := step_below HB4.out hB7
            clear hA HA4 HB4 hB7
            refine (four_any vs (prZ f g) w3 HC.out (fun k hk => (by
              have bf := bin_le f HF.out k
              have bg := bin_le g HG.out k
              have m1 := mul_le40 _ _ bf.1 bg.1
              have m2 := mul_le40 _ _ bf.2 bg.2
              have m3 := mul_le40 _ _ bf.1 bg.2
              have m4 := mul_le40 _ _ bf.2 bg.1
              simp only [prZ, mulZ]; omega))).mono ?_
            rintro e w4 ⟨⟨us, rfl, hus⟩, hb4⟩
            have HA5 := Lib.hid (hA3.below hb4 hA3.lt)
            have HA7 : Hid (At w4 wr.heap.size 24 (rowI 4 (partF (cvZ f g) (fun _ => 0) 0))) := Lib.hid (hA7.below hb4 hA7.lt)
            have HB5 := Lib.hid (step_below hB3 hb4)
            have HU := Lib.hid hus
            clear hus hA3 hA7 hb4 hB3
            go_wp2_with fail
            generalize wr.heap.size = h at *
            go_loopw [39] (fun i wr => ∃ k : Nat, k ≤ 4 ∧ i = .int .i64 k ∧ Hid (At wr (w.heap.size + 1 + 1) 24 (rowI 4 fun _ => 0)) ∧ Hid (At wr h 24 (rowI 4 (partF (cvZ f g) (fun _ => 0) k))) ∧ Hid (Below w.heap.size w wr)) (fun i _ => 4 - (intOf i).toNat)
            case atStart => exact ⟨0, by omega, rfl, HA5, HA7, HB5⟩
            case round =>
              clear HA5 HA7 HB5
              obtain ⟨k, hk, rfl, HA5, HA7, HB5⟩ := hrel
              by_cases hlt : k < 4
              · obtain ⟨a, b, hve, hva, hvb⟩ := HU.out k hlt
                rw [four_round f g k hlt] at hva hvb
                replace hva : F64.Is a (4 * cvZ f g k) := hva
                replace hvb : F64.Is b 0 := hvb
                have hidx := fun w => index_one (P := Try.prog) 79 77 4 (rowF 4 us).toArray .i64 (k : Int) _ 1 (.complex .f64 a b) rfl rfl rfl (by kernel_rfl) rfl (by omega) (by simp [rowF_get hlt, hve]) w
                have hcz : CZ (.complex .f64 a b) (4 * cvZ f g k) 0 := ⟨_, _, rfl, hva, hvb⟩
                have hcv := cv_le f g HF.out HG.out k
                have HQ : Hid ((rowI 4 (partF (cvZ f g) (fun _ => 0) k)).set k (.int .i64 (cvZ f g k)) = rowI 4 (partF (cvZ f g) (fun _ => 0) (k + 1))) := Lib.hid (by
                  unfold rowI
                  rw [rowF_set _ hlt]
                  refine rowF_ext fun i _ => ?_
                  by_cases hik : i = k
                  · subst hik; simp [partF]
                  · by_cases h2 : i < k
                    · simp [hik, partF, h2, Nat.lt_succ_of_lt h2]
                    · simp [hik, partF, h2, show ¬ i < k + 1 by omega])
                have e1 : (4 * cvZ f g k).tdiv 4 = cvZ f g k := Int.mul_tdiv_cancel_left _ (by decide)
                clear hve hva hvb
                go_wp2_with fail
                refine (Whole_any (.complex .f64 a b) _ _ wr hcz (by omega)).mono ?_
                rintro e _ ⟨rfl, rfl⟩
                rw [e1]
                clear hidx hcz hcv e1
                generalize cvZ f g k = q at *
                go_wp2_with (with_reducible refine wpList_store_cell rfl 3 (.tmp 49) (.tmp 47) rfl rfl h k rfl (.int .i64 q) rfl 24 (rowI 4 (partF (cvZ f g) (fun _ => 0) k)) HA7.out (by simp [rowI, hlt]) (by kernel_rfl) rfl rfl ?_)
                intro w5 hA6 hU6
                have HA6 := Lib.hid (hA6.of_eq HQ.out)
                have HA8 := Lib.hid (HA5.out.upd hU6 (by omega))
                have HB6 := Lib.hid (step_upd HB5.out hU6 (by omega))
                clear hA6 hU6 HA5 HA7 HB5
                go_wp2
                go_roundw
                case rel => exact ⟨k + 1, by omega, by go_num, HA8, HA6, HB6⟩
                case measure => simp [intOf]; omega
              · obtain rfl : k = 4 := by omega
                have HV2 : Hid (rowI 4 (rndV f g) = rowI 4 (partF (cvZ f g) (fun _ => 0) 4)) := Lib.hid (by
                  rw [HV.out]
                  unfold rowI
                  refine rowF_ext fun i hi => ?_
                  simp [partF, hi])
                go_wp2_with (first
                  | (with_reducible refine wpList_load_at rfl 24 (.tmp 9) rfl h (by kernel_rfl) 24 (rowI 4 (partF (cvZ f g) (fun _ => 0) 4)) HA7.out _ Try.underlying24 rfl (by kernel_rfl) ?_)
                  | (with_reducible refine wpList_store_row rfl 24 (.tmp 4) (.tmp 51) rfl rfl (w.heap.size + 1 + 1) (by kernel_rfl) (rowI 4 (partF (cvZ f g) (fun _ => 0) 4)) (by kernel_rfl) 24 (rowI 4 fun _ => 0) HA5.out (by kernel_rfl) (by kernel_rfl) (rowI_one _ _) ?_))
                intro w5 hA6 hU6
                have h5 : Below w.heap.size w w5 := step_upd HB5.out hU6 (by omega)
                clear hU6
                go_wp2
                (try simp only [Exit.inBlock, Exit.then])
                refine bodyPost_ret (results_cell_at2 rfl _ _ (w.heap.size + 1 + 1) 24 _ hA6 _ (by kernel_rfl) Try.underlying24 rfl (by kernel_rfl)) rfl ?_
                exact ⟨by rw [HV2.out, HE.out]; rfl, h5⟩
    · have HE : Hid (rndE f g = 1) := Lib.hid (by rw [rndE, if_pos h0, if_neg h1])
      have HV := Lib.hid (bad HE.out)
      have hd : (wrongZ g 4 != 0) = true := by rw [bne_iff_ne]; exact h1
      clear h0 h1 bad
      generalize wrongZ g 4 = wz at *
      go_wp2_with (with_reducible refine wpList_store_row rfl 24 (.tmp 4) (.tmp 20) rfl rfl (w.heap.size + 1 + 1) (by kernel_rfl) (rowI 4 fun _ => 0) (by kernel_rfl) 24 (rowI 4 fun _ => 0) HA4.out (by kernel_rfl) (by kernel_rfl) (rowI_one _ _) ?_)
      intro w5 hA5 hU5
      have h5 : Below w.heap.size w w5 := step_upd HB1.out hU5 (by omega)
      clear hU5
      go_wp2
      (try simp only [Exit.inBlock, Exit.then])
      refine bodyPost_ret (results_cell_at2 rfl _ _ (w.heap.size + 1 + 1) 24 _ hA5 _ (by kernel_rfl) Try.underlying24 rfl (by kernel_rfl)) rfl ?_
      exact ⟨by rw [HV.out, HE.out]; rfl, h5⟩
  · have HE : Hid (rndE f g = 1) := Lib.hid (by rw [rndE, if_neg h0])
    have HV := Lib.hid (bad HE.out)
    have hd : (wrongZ f 4 != 0) = true := by rw [bne_iff_ne]; exact h0
    clear h0 bad
    generalize wrongZ f 4 = wz at *
    go_wp2_with (with_reducible refine wpList_store_row rfl 24 (.tmp 4) (.tmp 20) rfl rfl (w.heap.size + 1 + 1) (by kernel_rfl) (rowI 4 fun _ => 0) (by kernel_rfl) 24 (rowI 4 fun _ => 0) HA4.out (by kernel_rfl) (by kernel_rfl) (rowI_one _ _) ?_)
    intro w5 hA5 hU5
    have h5 : Below w.heap.size w w5 := step_upd HB1.out hU5 (by omega)
    clear hU5
    go_wp2
    (try simp only [Exit.inBlock, Exit.then])
    refine bodyPost_ret (results_cell_at2 rfl _ _ (w.heap.size + 1 + 1) 24 _ hA5 _ (by kernel_rfl) Try.underlying24 rfl (by kernel_rfl)) rfl ?_
    exact ⟨by rw [HV.out, HE.out]; rfl, h5⟩
end Go.Proofs.Ytgkbpdcedighcab
