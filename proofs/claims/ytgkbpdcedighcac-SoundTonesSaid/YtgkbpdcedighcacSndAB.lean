import Derived.Test.YtgkbpdcedighcacSndAA
import Derived.Test.YtgkbpdcedighcacMixL
import Derived.Test.YtgkbpdcedighcacTurnOf
import Derived.Test.YtgkbpdcedighcacRowL
import Derived.Test.YtgkbpdcedighcacAppend
import Derived.Test.YtgkbpdcedighcacTurnG
import Derived.Test.YtgkbpdcedighcacIndex
import Derived.Test.YtgkbpdcedighcacTurnF
import Derived.Test.YtgkbpdcedighcacEql
import Derived.Test.YtgkbpdcedighcacRMixS
/-
  Plain: what is heard of four accesses.
-/
namespace Go.Proofs.Ytgkbpdcedighcac
open NoiseP

/-- Nothing goes on. -/
structure PS.Still (y : PS) : Prop where
  x : ∀ i, (y.x i).co / 64 ≠ 2 ∧ (y.x i).ny = false
  be : (y.x 0).be = 0
  bd : y.bd % 4 = 0
theorem CS.still_go {x : CS} (h : x.co / 64 ≠ 2 ∧ x.ny = false) (n : Int) : x.go n = x := by
  obtain ⟨fr, be, co, ba, to, ny, wv, pl, lf, s, l, f⟩ := x
  obtain ⟨h1, h2⟩ := h
  replace h1 : co / 64 ≠ 2 := h1
  replace h2 : ny = false := h2
  subst h2
  unfold CS.go wgPl wgLf nsS nsL
  simp only [if_neg h1]
  rfl
theorem PS.still_tick {y : PS} (h : y.Still) : y.tick = y := by
  have hb : y.bent = 0 := by
    unfold PS.bent
    rw [h.bd]
    split
    · rfl
    · exact Int.mul_zero _
  have h0 : (y.x 0).bend 0 = y.x 0 := by
    have := h.be
    generalize y.x 0 = x at *
    obtain ⟨fr, be, co, ba, to, ny, wv, pl, lf, s, l, f⟩ := x
    replace this : be = 0 := this
    subst this
    rfl
  have : (fun j => if j = 0 then ((y.x 0).bend y.bent).go 1 else (y.x j).go 1) = y.x := by
    funext j
    by_cases hj : j = 0
    · subst hj
      rw [if_pos rfl, hb, h0, CS.still_go (h.x 0)]
    · rw [if_neg hj, CS.still_go (h.x j)]
  unfold PS.tick
  rw [this]
theorem PS.still_adv {y : PS} (h : y.Still) : ∀ n, y.adv n = y
  | 0 => rfl
  | n + 1 => by rw [PS.adv, PS.still_adv h n, PS.still_tick h]
theorem HS.still_one {y : PS} (h : y.Still) (t : Nat) (a : Ac) (ha : a.wr = true ∧ whN a.ad = 5) : (HS.mk y t).one a = ⟨y.wr (a.ad % 8192 % 16) a.da, toA t a.st⟩ := by
  unfold HS.one HS.to
  rw [if_pos ha, PS.still_adv h]

def liveE (i : Nat) : Ac := if i = 0 then ⟨6, 2091009, 0, true, 255⟩ else if i = 1 then ⟨12, 2091013, 0, true, 240⟩ else if i = 2 then ⟨18, 2091012, 0, true, 223⟩ else ⟨24, 2091014, 0, true, 31⟩
theorem still0 : PS.new.Still := ⟨fun _ => ⟨by show (0 : Nat) / 64 ≠ 2; decide, rfl⟩, rfl, rfl⟩
def lv1 : PS := PS.new.wr 1 255
def lv2 : PS := lv1.wr 5 240
def lv3 : PS := lv2.wr 4 223
def lv4 : PS := lv3.wr 6 31
theorem lv_x (y : PS) (f : CS → CS) (h : ∀ i, y.x i = if i = 0 then f CS.new else CS.new) (hb : y.bd = 0) (hc : (f CS.new).co / 64 ≠ 2 ∧ (f CS.new).ny = false) (he : (f CS.new).be = 0) : y.Still := by
  refine ⟨fun i => ?_, ?_, by rw [hb]⟩
  · rw [h i]
    split
    · exact hc
    · exact ⟨by decide, rfl⟩
  · rw [h 0, if_pos rfl]; exact he
theorem still1 : lv1.Still := lv_x lv1 (fun x => x) (fun i => by split <;> rfl) rfl ⟨by decide, rfl⟩ rfl
theorem still2 : lv2.Still := lv_x lv2 (fun x => x.wr 5 240) (fun _ => rfl) rfl ⟨by decide, rfl⟩ rfl
theorem still3 : lv3.Still := lv_x lv3 (fun x => (x.wr 5 240).wr 4 223) (fun i => by
  show (if i = 0 then (lv2.x 0).wr 4 223 else lv2.x i) = _
  by_cases hi : i = 0
  · rw [if_pos hi, if_pos hi]; rfl
  · rw [if_neg hi, if_neg hi]
    show (if i = 0 then _ else CS.new) = _
    rw [if_neg hi]) rfl ⟨by decide, rfl⟩ rfl
theorem still4 : lv4.Still := lv_x lv4 (fun x => ((x.wr 5 240).wr 4 223).wr 6 31) (fun i => by
  show (if i = 0 then (lv3.x 0).wr 6 31 else lv3.x i) = _
  by_cases hi : i = 0
  · rw [if_pos hi, if_pos hi]; rfl
  · rw [if_neg hi, if_neg hi]
    show (if i = 0 then _ else (if i = 0 then _ else CS.new)) = _
    rw [if_neg hi, if_neg hi]) rfl ⟨by decide, rfl⟩ rfl

theorem live_hear1 : hear liveE 4 24 1 = (⟨PS.new, 0⟩, 0) := by
  have e : hear liveE 4 24 1 = ((play liveE (24 * ((0 : Nat) : Int)) 0 4 HS.new).1.to (24 * ((0 : Nat) : Int)), 0 + (play liveE (24 * ((0 : Nat) : Int)) 0 4 HS.new).2) := rfl
  have p : play liveE (24 * ((0 : Nat) : Int)) 0 4 HS.new = (HS.new, 0) := by rw [play, if_pos (by decide)]
  rw [e, p]
  rfl
theorem live_hear2 : (hear liveE 4 24 2).1.y = lv4 := by
  have e : (hear liveE 4 24 2).1 = (play liveE (24 * ((1 : Nat) : Int)) (hear liveE 4 24 1).2 (4 - (hear liveE 4 24 1).2) (hear liveE 4 24 1).1).1.to (24 * ((1 : Nat) : Int)) := rfl
  rw [e, live_hear1]
  have p : (play liveE (24 * ((1 : Nat) : Int)) 0 4 ⟨PS.new, 0⟩).1 = ⟨lv4, 24⟩ := by
    rw [play, if_neg (by decide), play, if_neg (by decide), play, if_neg (by decide), play, if_neg (by decide), play]
    show (((HS.one ⟨PS.new, 0⟩ (liveE 0)).one (liveE 1)).one (liveE 2)).one (liveE 3) = _
    rw [HS.still_one still0 0 (liveE 0) (by decide +kernel)]
    rw [show (⟨PS.new.wr ((liveE 0).ad % 8192 % 16) (liveE 0).da, toA 0 (liveE 0).st⟩ : HS) = ⟨lv1, 6⟩ from rfl]
    rw [HS.still_one still1 6 (liveE 1) (by decide +kernel)]
    rw [show (⟨lv1.wr ((liveE 1).ad % 8192 % 16) (liveE 1).da, toA 6 (liveE 1).st⟩ : HS) = ⟨lv2, 12⟩ from rfl]
    rw [HS.still_one still2 12 (liveE 2) (by decide +kernel)]
    rw [show (⟨lv2.wr ((liveE 2).ad % 8192 % 16) (liveE 2).da, toA 12 (liveE 2).st⟩ : HS) = ⟨lv3, 18⟩ from rfl]
    rw [HS.still_one still3 18 (liveE 3) (by decide +kernel)]
    rfl
  show ((play liveE (24 * ((1 : Nat) : Int)) 0 4 ⟨PS.new, 0⟩).1.to (24 * ((1 : Nat) : Int))).y = lv4
  rw [p]
  exact PS.still_adv still4 _
theorem lv4_left : lv4.left = 126976 := by decide +kernel
theorem lv4_right : lv4.right = 31 * powZ 30 := by decide +kernel
theorem new_left : PS.new.left = 0 := by decide +kernel
theorem new_right : PS.new.right = 0 := by decide +kernel
theorem live_L0 : heL liveE 4 24 0 = 0 := by unfold heL; rw [live_hear1]; exact new_left
theorem live_R0 : heR liveE 4 24 0 = 0 := by unfold heR; rw [live_hear1]; exact new_right
theorem live_L1 : heL liveE 4 24 1 = 126976 := by unfold heL; rw [live_hear2, lv4_left]
theorem live_R1 : heR liveE 4 24 1 = 682 := by unfold heR; rw [live_hear2, lv4_right]; decide +kernel
end Go.Proofs.Ytgkbpdcedighcac

/-
  The walks of sound: wrong, side.
-/
namespace Go.Proofs.Ytgkbpdcedighcac
open Go.RowKit Go.Sort

/-- A row of pairs. -/
def PrAt (w : World) (a : Option Addr) (n : Nat) (X : Nat → Int × Int) : Prop := RowOf w a n 2 fun i => [.int .i64 (X i).1, .int .i64 (X i).2]
theorem PrAt.below {w w' : World} {a : Option Addr} {n : Nat} {X : Nat → Int × Int} (h : PrAt w a n X) (hb : Below w.heap.size w w') : PrAt w' a n X := RowOf.below h hb

def beyP (p : Int × Int) : Bool := decide (min p.1 p.2 < -1000000) || decide (1000000 < max p.1 p.2)
def badP (X : Nat → Int × Int) : Nat → Bool
  | 0 => false
  | n + 1 => badP X n || beyP (X n)
theorem badP_mono (X : Nat → Int × Int) {k n : Nat} (h : badP X k = true) (hk : k ≤ n) : badP X n = true := by
  induction n with
  | zero => rw [show k = 0 by omega] at h; exact h
  | succ n ih =>
    by_cases hkn : k = n + 1
    · subst hkn; exact h
    · simp [badP, ih (by omega)]
theorem badP_no (X : Nat → Int × Int) {n : Nat} (h : badP X n = false) : ∀ i, i < n → (-1000000 ≤ (X i).1 ∧ (X i).1 ≤ 1000000) ∧ (-1000000 ≤ (X i).2 ∧ (X i).2 ≤ 1000000) := by
  induction n with
  | zero => intro i hi; omega
  | succ n ih =>
    rw [badP, Bool.or_eq_false_iff] at h
    intro i hi
    by_cases hin : i = n
    · subst hin
      have h2 := h.2
      simp only [beyP, Bool.or_eq_false_iff, decide_eq_false_iff_not] at h2
      omega
    · exact ih h.1 i (by omega)
def wrongP (X : Nat → Int × Int) (n : Nat) : Int := if 4096 < n then 2 else if badP X n then 1 else 0

set_option maxRecDepth 100000 in
theorem Clo_any (x y : Int) (w : World) : Calls Try.prog 121 #[.agg #[.int .i64 x, .int .i64 y]] w fun e w' => e = .returned (.bool (beyP (x, y))) ∧ Below w.heap.size w w' := by
  have hA : At (w.alloc (.cells #[.int .i64 x, .int .i64 y] 87)) w.heap.size 87 [.int .i64 x, .int .i64 y] := At.new w _ _
  have c0 := hA.cell 0 rfl
  have c1 := hA.cell 1 rfl
  have HB : Hid (Below w.heap.size w (w.alloc (.cells #[.int .i64 x, .int .i64 y] 87))) := Lib.hid ((Below.refl _ w).alloc (Nat.le_refl _) _)
  have HP : Hid (beyP (x, y) = (decide (min x y < -1000000) || decide (1000000 < max x y))) := Lib.hid rfl
  clear hA
  rcases Int.le_total x y with hxy | hxy
  all_goals
    go_enter Try.func121, Try.ntmps121
    go_wp2
    all_goals
      go_ret
      refine ⟨congrArg (fun b => Ending.returned (Value.bool b)) (?_ : _ = beyP (x, y)), HB.out⟩
      rw [HP.out]
      clear HP HB c0 c1
      grind

set_option maxRecDepth 100000 in
set_option maxHeartbeats 1000000 in
theorem PIndex_any (a : Option Addr) (n cap : Nat) (X : Nat → Int × Int) (w : World) (hz : PrAt w a n X) (hn : n ≤ 4611686018427387904) :
    Calls Try.prog 139 #[.slice a n cap, .func (.func 121) #[] #[]] w fun e w' => (∃ r : Int, e = .returned (.int .i64 r) ∧ decide (0 ≤ r) = badP X n) ∧ Below w.heap.size w w' := by
  have HZ := Lib.hid hz
  clear hz
  go_enter Try.func139, Try.ntmps139
  go_wp2_with fail
  go_loopw [8] (fun i wr => ∃ k : Nat, k ≤ n ∧ i = .int .i64 k ∧ Hid (badP X k = false) ∧ Hid (Below w.heap.size w wr)) (fun i _ => n - (intOf i).toNat)
  case atStart => exact ⟨0, by omega, rfl, Lib.hid rfl, Lib.hid (Below.refl _ _)⟩
  case round =>
    obtain ⟨k, hk, rfl, HK, HB⟩ := hrel
    by_cases hlt : k < n
    · obtain ⟨b, off, rfl, hbw, hc⟩ := HZ.out.below HB.out k hlt
      have hcl : CellsAt wr b (off + k * 2) [.int .i64 (X k).1, .int .i64 (X k).2] := hc
      have hk0 : (0 : Int) ≤ (k : Int) := by omega
      have hkn : (k : Int) < (n : Int) := by omega
      go_wp2_with (with_reducible refine wpList_load_cells (by kernel_rfl) 87 (.tmp 14) rfl b (off + k * 2) rfl _ hcl _ Try.underlying87 rfl (by kernel_rfl) ?_)
      refine (Clo_any (X k).1 (X k).2 wr).mono ?_
      rintro e w2 ⟨rfl, hb2⟩
      have HB2 := Lib.hid (step_below HB.out hb2)
      clear hb2 hcl hc
      cases hb : beyP ((X k).1, (X k).2)
      · have HK1 : Hid (badP X (k + 1) = false) := Lib.hid (by rw [badP, HK.out]; exact hb)
        clear hb
        go_wp2
        go_roundw
        case rel => exact ⟨k + 1, by omega, by go_num, HK1, HB2⟩
        case measure => simp [intOf]; omega
      · have HK1 := Lib.hid (badP_mono X (k := k + 1) (by rw [badP]; rw [show beyP (X k) = true from hb]; simp) hlt)
        clear hb
        go_wp2
        go_ret
        exact ⟨⟨_, rfl, by rw [HK1.out]; simp⟩, HB2.out⟩
    · obtain rfl : k = n := by omega
      go_wp2
      go_ret
      exact ⟨⟨_, rfl, by rw [HK.out]; rfl⟩, HB.out⟩

theorem PCont_any (a : Option Addr) (n cap : Nat) (X : Nat → Int × Int) (w : World) (hz : PrAt w a n X) (hn : n ≤ 4611686018427387904) :
    Calls Try.prog 120 #[.slice a n cap, .func (.func 121) #[] #[]] w fun e w' => e = .returned (.bool (badP X n)) ∧ Below w.heap.size w w' := by
  have HZ := Lib.hid hz
  clear hz
  go_enter Try.func120, Try.ntmps120
  go_wp2_with fail
  refine (PIndex_any a n cap X w HZ.out hn).mono ?_
  rintro e w2 ⟨⟨r, rfl, hr⟩, hb⟩
  have HB := Lib.hid hb
  clear hb
  go_wp2
  go_ret
  exact ⟨by rw [← hr]; rfl, HB.out⟩

theorem PWrong_any (a : Option Addr) (n cap : Nat) (X : Nat → Int × Int) (w : World) (hz : PrAt w a n X) (hn : n ≤ 4611686018427387904) :
    Calls Try.prog 99 #[.slice a n cap] w fun e w' => e = .returned (.int .i64 (wrongP X n)) ∧ Below w.heap.size w w' := by
  have HZ := Lib.hid hz
  clear hz
  by_cases h1 : 4096 < n
  · have hd : decide (4096 < (n : Int)) = true := by rw [decide_eq_true_eq]; omega
    go_enter Try.func99, Try.ntmps99
    go_wp2
    (try simp only [Exit.inBlock, Exit.then])
    go_ret
    exact ⟨by rw [wrongP, if_pos h1]; rfl, Below.refl _ _⟩
  · have hd : decide (4096 < (n : Int)) = false := by rw [decide_eq_false_iff_not]; omega
    have HW : Hid (wrongP X n = if badP X n then 1 else 0) := Lib.hid (by rw [wrongP, if_neg h1])
    go_enter Try.func99, Try.ntmps99
    go_wp2_with fail
    refine (PCont_any a n cap X w HZ.out hn).mono ?_
    rintro e w2 ⟨rfl, hb⟩
    have HB := Lib.hid hb
    clear hb
    generalize badP X n = c at *
    cases c
    · go_wp2
      (try simp only [Exit.inBlock, Exit.then])
      go_ret
      exact ⟨by rw [HW.out]; rfl, HB.out⟩
    · go_wp2
      (try simp only [Exit.inBlock, Exit.then])
      go_ret
      exact ⟨by rw [HW.out]; rfl, HB.out⟩

theorem tdiv4_bd (x M : Int) (h1 : -M ≤ x) (h2 : x ≤ M) : -M ≤ x.tdiv 4 ∧ x.tdiv 4 ≤ M := by
  rcases Int.le_total 0 x with h | h
  · rw [Int.tdiv_eq_ediv_of_nonneg h]; omega
  · have e : x.tdiv 4 = -((-x) / 4) := by rw [← Int.tdiv_eq_ediv_of_nonneg (show 0 ≤ -x by omega), Int.neg_tdiv, Int.neg_neg]
    rw [e]; omega
/-- One side, weaker. -/
def sdZ (X : Nat → Int × Int) (k : Nat) (i : Nat) : Int := (if k = 0 then (X i).1 else (X i).2).tdiv 4
theorem infoI : (Try.prog.info? 3).map (fun i => (i.zero, i.size, i.bytes)) = some (some (.int .i64 0), 1, 8) := by kernel_rfl
set_option maxRecDepth 100000 in
set_option maxHeartbeats 2000000 in
theorem PSide_any (a : Option Addr) (n cap : Nat) (X : Nat → Int × Int) (k : Nat) (w : World) (hz : PrAt w a n X) (hn : n ≤ 4096) (hk : k < 2) (hbd : ∀ i, i < n → (-1000000 ≤ (X i).1 ∧ (X i).1 ≤ 1000000) ∧ (-1000000 ≤ (X i).2 ∧ (X i).2 ≤ 1000000)) :
    Calls Try.prog 101 #[.slice a n cap, .int .i64 (k : Int)] w fun e w' => ∃ v, e = .returned v ∧ w'.ownsRow w.heap.size 3 1 v n ((List.range n).map fun i => .int .i64 (sdZ X k i)) ∧ Below w.heap.size w w' := by
  have HZ := Lib.hid hz
  clear hz
  obtain ⟨i0, hi0⟩ := Option.map_eq_some_iff.1 infoI
  obtain ⟨hi, hzz⟩ := hi0
  have hz0 : i0.zero = some (.int .i64 0) := congrArg Prod.fst hzz
  have hz1 : i0.size = 1 := congrArg (fun p => p.2.1) hzz
  have hz2 : i0.bytes = 8 := congrArg (fun p => p.2.2) hzz
  clear hzz
  have hk0 : (0 : Int) ≤ (k : Int) := by omega
  have hk2 : (k : Int) < 2 := by omega
  go_enter Try.func101, Try.ntmps101
  go_wp2_with fail
  go_loopw [5, 10] (fun v i wr => ∃ j : Nat, j ≤ n ∧ i = .int .i64 (j : Int) ∧ Hid (wr.ownsRow w.heap.size 3 1 v j ((List.range j).map fun i => .int .i64 (sdZ X k i))) ∧ Hid (Below w.heap.size w wr)) (fun _ i _ => n - (intOf i).toNat)
  case atStart => exact ⟨0, by omega, rfl, Lib.hid (own_nil _ _ _ _), Lib.hid (Below.refl _ _)⟩
  case round =>
    obtain ⟨j, hj, rfl, HV, HB⟩ := hrel
    by_cases hlt : j < n
    · obtain ⟨b, off, rfl, hbw, hc⟩ := HZ.out.below HB.out j hlt
      have HCL : Hid (CellsAt wr b (off + j * 2) [.int .i64 (X j).1, .int .i64 (X j).2]) := Lib.hid hc
      have hj0 : (0 : Int) ≤ (j : Int) := by omega
      have hjn : (j : Int) < (n : Int) := by omega
      have HNW : Hid (At (wr.alloc (.cells #[.int .i64 0, .int .i64 0] 87)) wr.heap.size 87 [.int .i64 0, .int .i64 0]) := Lib.hid (At.new wr _ _)
      have hone : ∀ v ∈ [Value.int .i64 (X j).1, .int .i64 (X j).2], v.oneCell' = true := by
        intro v hv
        simp at hv
        rcases hv with rfl | rfl <;> rfl
      have hbj := hbd j hlt
      have hsb : -1000000 ≤ sdZ X k j ∧ sdZ X k j ≤ 1000000 := by
        unfold sdZ
        have h1 := tdiv4_bd (X j).1 1000000 hbj.1.1 hbj.1.2
        have h2 := tdiv4_bd (X j).2 1000000 hbj.2.1 hbj.2.2
        split <;> omega
      have HSD : Hid (sdZ X k j = (if k = 0 then (X j).1 else (X j).2).tdiv 4) := Lib.hid rfl
      obtain ⟨xs, hxs⟩ : ∃ xs : List Value, xs = (List.range j).map fun i => .int .i64 (sdZ X k i) := ⟨_, rfl⟩
      have HXS := Lib.hid hxs
      rw [← hxs] at HV
      clear hc hxs
      generalize (X j).1 = x0 at *
      generalize (X j).2 = x1 at *
      obtain ⟨sd, hsd⟩ : ∃ sd, sd = sdZ X k j := ⟨_, rfl⟩
      have HSDJ := Lib.hid hsd
      rw [← hsd] at HSD hsb
      have hsb1 := hsb.1
      have hsb2 := hsb.2
      have hw64 : wrap64 sd = sd := by unfold wrap64; omega
      clear hsd
      go_wp2_with (first | (with_reducible refine wpList_load_cells (by kernel_rfl) 87 (.tmp 12) rfl b (off + j * 2) rfl _ HCL.out _ Try.underlying87 rfl (by kernel_rfl) ?_) | (with_reducible refine wpList_store_row rfl 87 (.tmp 7) (.tmp 13) rfl rfl wr.heap.size (by kernel_rfl) [.int .i64 x0, .int .i64 x1] (by kernel_rfl) 87 [.int .i64 0, .int .i64 0] HNW.out (by kernel_rfl) (by kernel_rfl) hone ?_))
      intro w4 hA4 hU4
      have hb4 : Below wr.heap.size wr w4 := (((Upd.refl (· = wr.heap.size) wr).alloc _).trans hU4 fun _ _ h => h).to (Below.refl _ _) (Nat.le_refl _) (fun b h => Nat.le_of_eq h.symm)
      have ck : w4.cell? ⟨wr.heap.size, k, none⟩ = some (.int .i64 (if k = 0 then x0 else x1)) := by
        match k, hk with
        | 0, _ => exact hA4.cell 0 rfl
        | 1, _ => exact hA4.cell 1 rfl
      have HVA : Hid ((w4.alloc (.cells #[.int .i64 sd] 3)).ownsRow w.heap.size 3 1 u5 j xs) := Lib.hid (own_upd HV.out ((Upd.of_below (S := fun _ => False) hb4).alloc _) (fun _ _ h => h))
      have hba : Below w.heap.size w (w4.alloc (.cells #[.int .i64 sd] 3)) := (step_below HB.out hb4).alloc (step_below HB.out hb4).size _
      have HBA := Lib.hid hba
      have hsz := hba.size
      have hdv : (if k = 0 then x0 else x1).tdiv 4 = sd := HSD.out.symm
      have hb8 : (j + 1) * 8 ≤ 140737488355328 := by omega
      have hml : j + 1 ≤ maxLen := by unfold maxLen; omega
      generalize (if k = 0 then x0 else x1) = xx at *
      clear hA4 hU4 hb4 hba HNW hone HCL HV HB
      go_wp2_with (at_builtin; go_loud (refine wpList_append_own _ rfl _ _ 93 rfl w.heap.size 3 i0 (.int .i64 0) 1 8 Try.underlying93 hi hz0 hz1 hz2 rfl (by decide) _ j xs rfl HVA.out ⟨w4.heap.size, 0, none⟩ 1 1 [.int .i64 sd] rfl rfl (cell_one_new _ _ _) (by intro u hu; simp at hu; subst hu; rfl) hml hb8 hsz ?_))
      intro v5 w5 hO5 hg5 _
      have HB5 := Lib.hid (HBA.out.grown hg5 hsz (fun b hb => (by
        rcases HVA.out.2 with ⟨rfl, _⟩ | ⟨g, cp, cur, rfl, hbg, _⟩
        · simp [Value.ownBlock] at hb
        · have : g = b := by simpa [Value.ownBlock] using hb
          exact this ▸ hbg)))
      have HV5 : Hid (w5.ownsRow w.heap.size 3 1 v5 (j + 1) ((List.range (j + 1)).map fun i => .int .i64 (sdZ X k i))) := Lib.hid (by
        rw [List.range_succ, List.map_append]
        rw [HXS.out] at hO5
        rw [show sd = sdZ X k j from HSDJ.out] at hO5
        exact hO5)
      clear hO5 hg5 HVA HBA
      go_wp2
      go_roundw
      case rel => exact ⟨j + 1, by omega, by go_num, HV5, HB5⟩
      case measure => simp [intOf]; omega
    · obtain rfl : j = n := by omega
      go_wp2
      go_ret
      exact ⟨_, rfl, HV.out, HB.out⟩
end Go.Proofs.Ytgkbpdcedighcac

/-
  The walks of sound: Tone, Loudest.
-/
namespace Go.Proofs.Ytgkbpdcedighcac
open Go.RowKit Go.Sort

def tnF (A B : Nat → Int) (k i : Nat) : Int := if i < 8 * k then (if i < 8 then A i else B (i - 8)) else 0
/-- What Tone answers. -/
def tnV (X : Nat → Int × Int) (n : Nat) : List Value := rowI 16 (tnF (pI (binR (sdZ X 0) n)) (pI (binR (sdZ X 1) n)) (if wrongP X n = 0 then 2 else 0))
theorem tn_zero (A B : Nat → Int) : rowI 16 (tnF A B 0) = [.int .i64 0, .int .i64 0, .int .i64 0, .int .i64 0, .int .i64 0, .int .i64 0, .int .i64 0, .int .i64 0, .int .i64 0, .int .i64 0, .int .i64 0, .int .i64 0, .int .i64 0, .int .i64 0, .int .i64 0, .int .i64 0] := rfl

set_option maxRecDepth 100000 in
set_option maxHeartbeats 4000000 in
theorem Tone_any (a : Option Addr) (n cap : Nat) (X : Nat → Int × Int) (w : World) (hz : PrAt w a n X) (hn : n ≤ 4611686018427387904) :
    Calls Try.prog 55 #[.slice a n cap] w fun e w' => e = .returned (.tuple #[.agg (tnV X n).toArray, .int .i64 (wrongP X n)]) ∧ Below w.heap.size w w' := by
  have HZ := Lib.hid hz
  clear hz
  go_enter Try.func55, Try.ntmps55
  go_wp2_with fail
  refine allocs2 (F := fun w => Calls _ _ _ w _) ?_
  intro w1 hR1 hA1 hB1 _
  replace hR1 : At w1 w.heap.size 90 [.int .i64 0, .int .i64 0, .int .i64 0, .int .i64 0, .int .i64 0, .int .i64 0, .int .i64 0, .int .i64 0, .int .i64 0, .int .i64 0, .int .i64 0, .int .i64 0, .int .i64 0, .int .i64 0, .int .i64 0, .int .i64 0] := hR1
  replace hA1 : At w1 (w.heap.size + 1) 90 (rowI 16 (tnF (pI (binR (sdZ X 0) n)) (pI (binR (sdZ X 1) n)) 0)) := hA1
  have HR1 := Lib.hid hR1
  have HA1 := Lib.hid hA1
  have HB1 := Lib.hid hB1
  clear hR1 hA1 hB1
  refine (PWrong_any a n cap X w1 (HZ.out.below HB1.out) hn).mono ?_
  rintro e w2 ⟨rfl, hb2⟩
  have HR2 := Lib.hid (HR1.out.below hb2 HR1.out.lt)
  have HA2 := Lib.hid (HA1.out.below hb2 HA1.out.lt)
  have HB2 := Lib.hid (step_below HB1.out hb2)
  clear hb2 HR1 HA1 HB1
  by_cases h0 : wrongP X n = 0
  · have HW := Lib.hid h0
    have hbd : n ≤ 4096 ∧ badP X n = false := by
      unfold wrongP at h0
      split at h0
      · cases h0
      · refine ⟨by omega, ?_⟩
        cases hb : badP X n with
        | false => rfl
        | true => rw [hb] at h0; cases h0
    have HN4 := Lib.hid hbd.1
    have HBD := Lib.hid (badP_no X hbd.2)
    rw [h0]
    clear h0 hbd
    go_wp2_with fail
    go_loopw [13] (fun i wr => ∃ k : Nat, k ≤ 2 ∧ i = .int .i64 (k : Int) ∧ Hid (At wr (w.heap.size + 1) 90 (rowI 16 (tnF (pI (binR (sdZ X 0) n)) (pI (binR (sdZ X 1) n)) k))) ∧ Hid (At wr w.heap.size 90 [.int .i64 0, .int .i64 0, .int .i64 0, .int .i64 0, .int .i64 0, .int .i64 0, .int .i64 0, .int .i64 0, .int .i64 0, .int .i64 0, .int .i64 0, .int .i64 0, .int .i64 0, .int .i64 0, .int .i64 0, .int .i64 0]) ∧ Hid (Below w.heap.size w wr)) (fun i _ => 2 - (intOf i).toNat)
    case atStart => exact ⟨0, by omega, rfl, HA2, HR2, HB2⟩
    case round =>
      clear HA2 HR2 HB2
      obtain ⟨k, hk, rfl, HA, HR, HB⟩ := hrel
      obtain rfl | rfl | rfl : k = 0 ∨ k = 1 ∨ k = 2 := by omega
      · rw [show ((0 : Nat) : Int) = 0 from rfl]
        go_wp2_with fail
        refine (PSide_any a n cap X 0 wr (HZ.out.below HB.out) HN4.out (by omega) HBD.out).mono ?_
        rintro e w2 ⟨v, rfl, hO2, hb2⟩
        obtain ⟨A2, cap2, rfl, _⟩ := own_form hO2
        have HI2 : Hid (IntsAt w2 A2 n (sdZ X 0)) := Lib.hid fun i hi => by
          obtain ⟨b', cp', he, _, _, hlt', hc'⟩ := own_cell hO2 hi
          simp only [Value.slice.injEq] at he
          obtain ⟨rfl, -, rfl⟩ := he
          exact ⟨b', 0, rfl, hlt', by rw [Nat.zero_add]; exact hc'⟩
        have HA2 := Lib.hid (HA.out.below hb2 HA.out.lt)
        have HR2 := Lib.hid (HR.out.below hb2 HR.out.lt)
        have HB2 := Lib.hid (step_below HB.out hb2)
        clear hO2 hb2 HA HR HB
        go_wp2_with fail
        refine (Of_any A2 n cap2 (sdZ X 0) w2 HI2.out (by omega)).mono ?_
        rintro e w3 ⟨rfl, hb3⟩
        have HA3 := Lib.hid (HA2.out.below hb3 HA2.out.lt)
        have HR3 := Lib.hid (HR2.out.below hb3 HR2.out.lt)
        have HB3 := Lib.hid (step_below HB2.out hb3)
        have hws := HB2.out.size
        clear hb3 HA2 HR2 HB2 HI2
        generalize wrongZ (sdZ X 0) n = wz at *
        go_wp2_with (with_reducible refine wpList_store_part rfl 89 (.tmp 24) (.tmp 22) rfl rfl (w.heap.size + 1) 0 (by kernel_rfl) (rowI 8 (pI (binR (sdZ X 0) n))) (by kernel_rfl) 90 (rowI 16 (tnF (pI (binR (sdZ X 0) n)) (pI (binR (sdZ X 1) n)) 0)) HA3.out (of_decide_eq_true (by kernel_rfl)) (by kernel_rfl) (rowI_one _ _) ?_)
        intro w4 hA4 hU4
        have HA4 : Hid (At w4 (w.heap.size + 1) 90 (rowI 16 (tnF (pI (binR (sdZ X 0) n)) (pI (binR (sdZ X 1) n)) (0 + 1)))) := Lib.hid (hA4.of_eq rfl)
        have HR4 := Lib.hid (HR3.out.upd hU4 (by show w.heap.size ≠ w.heap.size + 1; omega))
        have HB4 := Lib.hid (hU4.to HB3.out HB3.out.size (fun b h => by show w.heap.size ≤ b; omega))
        clear hA4 hU4 HA3 HR3 HB3
        go_wp2
        go_roundw
        case rel => exact ⟨0 + 1, by omega, by go_num, HA4, HR4, HB4⟩
        case measure => simp [intOf]
      · rw [show ((1 : Nat) : Int) = 1 from rfl]
        go_wp2_with fail
        refine (PSide_any a n cap X 1 wr (HZ.out.below HB.out) HN4.out (by omega) HBD.out).mono ?_
        rintro e w2 ⟨v, rfl, hO2, hb2⟩
        obtain ⟨A2, cap2, rfl, _⟩ := own_form hO2
        have HI2 : Hid (IntsAt w2 A2 n (sdZ X 1)) := Lib.hid fun i hi => by
          obtain ⟨b', cp', he, _, _, hlt', hc'⟩ := own_cell hO2 hi
          simp only [Value.slice.injEq] at he
          obtain ⟨rfl, -, rfl⟩ := he
          exact ⟨b', 0, rfl, hlt', by rw [Nat.zero_add]; exact hc'⟩
        have HA2 := Lib.hid (HA.out.below hb2 HA.out.lt)
        have HR2 := Lib.hid (HR.out.below hb2 HR.out.lt)
        have HB2 := Lib.hid (step_below HB.out hb2)
        clear hO2 hb2 HA HR HB
        go_wp2_with fail
        refine (Of_any A2 n cap2 (sdZ X 1) w2 HI2.out (by omega)).mono ?_
        rintro e w3 ⟨rfl, hb3⟩
        have HA3 := Lib.hid (HA2.out.below hb3 HA2.out.lt)
        have HR3 := Lib.hid (HR2.out.below hb3 HR2.out.lt)
        have HB3 := Lib.hid (step_below HB2.out hb3)
        have hws := HB2.out.size
        clear hb3 HA2 HR2 HB2 HI2
        generalize wrongZ (sdZ X 1) n = wz at *
        go_wp2_with (with_reducible refine wpList_store_part rfl 89 (.tmp 24) (.tmp 22) rfl rfl (w.heap.size + 1) 8 (by kernel_rfl) (rowI 8 (pI (binR (sdZ X 1) n))) (by kernel_rfl) 90 (rowI 16 (tnF (pI (binR (sdZ X 0) n)) (pI (binR (sdZ X 1) n)) 1)) HA3.out (of_decide_eq_true (by kernel_rfl)) (by kernel_rfl) (rowI_one _ _) ?_)
        intro w4 hA4 hU4
        have HA4 : Hid (At w4 (w.heap.size + 1) 90 (rowI 16 (tnF (pI (binR (sdZ X 0) n)) (pI (binR (sdZ X 1) n)) (1 + 1)))) := Lib.hid (hA4.of_eq rfl)
        have HR4 := Lib.hid (HR3.out.upd hU4 (by show w.heap.size ≠ w.heap.size + 1; omega))
        have HB4 := Lib.hid (hU4.to HB3.out HB3.out.size (fun b h => by show w.heap.size ≤ b; omega))
        clear hA4 hU4 HA3 HR3 HB3
        go_wp2
        go_roundw
        case rel => exact ⟨1 + 1, by omega, by go_num, HA4, HR4, HB4⟩
        case measure => simp [intOf]
      · rw [show ((2 : Nat) : Int) = 2 from rfl]
        go_wp2_with (first
          | (with_reducible refine wpList_load_at rfl 90 (.tmp 4) rfl (w.heap.size + 1) (by kernel_rfl) 90 _ HA.out _ Try.underlying90 rfl (by kernel_rfl) ?_)
          | (with_reducible refine wpList_store_row rfl 90 (.tmp 2) (.tmp 26) rfl rfl w.heap.size (by kernel_rfl) (rowI 16 (tnF (pI (binR (sdZ X 0) n)) (pI (binR (sdZ X 1) n)) 2)) (by kernel_rfl) 90 [.int .i64 0, .int .i64 0, .int .i64 0, .int .i64 0, .int .i64 0, .int .i64 0, .int .i64 0, .int .i64 0, .int .i64 0, .int .i64 0, .int .i64 0, .int .i64 0, .int .i64 0, .int .i64 0, .int .i64 0, .int .i64 0] HR.out (by kernel_rfl) (by kernel_rfl) (rowI_one _ _) ?_))
        intro w5 hA5 hU5
        have hB5 := step_upd HB.out hU5 (Nat.le_refl _)
        go_wp2
        (try simp only [Exit.inBlock, Exit.then])
        refine bodyPost_ret (results_cell_at2 rfl _ _ w.heap.size 90 _ hA5 _ (by kernel_rfl) Try.underlying90 rfl (by kernel_rfl)) rfl ?_
        exact ⟨by rw [HW.out, tnV, if_pos HW.out]; rfl, hB5⟩
  · have HT : Hid (tnV X n = rowI 16 (tnF (pI (binR (sdZ X 0) n)) (pI (binR (sdZ X 1) n)) 0)) := Lib.hid (by unfold tnV; rw [if_neg h0])
    generalize hx : wrongP X n = x at h0 ⊢
    have HX := Lib.hid hx
    clear hx
    have h1 : (x != 0) = true := by simpa using h0
    go_wp2_with (first
      | (with_reducible refine wpList_load_at rfl 90 (.tmp 4) rfl (w.heap.size + 1) (by kernel_rfl) 90 _ HA2.out _ Try.underlying90 rfl (by kernel_rfl) ?_)
      | (with_reducible refine wpList_store_row rfl 90 (.tmp 2) (.tmp 11) rfl rfl w.heap.size (by kernel_rfl) (rowI 16 (tnF (pI (binR (sdZ X 0) n)) (pI (binR (sdZ X 1) n)) 0)) (by kernel_rfl) 90 [.int .i64 0, .int .i64 0, .int .i64 0, .int .i64 0, .int .i64 0, .int .i64 0, .int .i64 0, .int .i64 0, .int .i64 0, .int .i64 0, .int .i64 0, .int .i64 0, .int .i64 0, .int .i64 0, .int .i64 0, .int .i64 0] HR2.out (by kernel_rfl) (by kernel_rfl) (rowI_one _ _) ?_))
    intro w5 hA5 hU5
    have hB5 := step_upd HB2.out hU5 (Nat.le_refl _)
    go_wp2
    (try simp only [Exit.inBlock, Exit.then])
    refine bodyPost_ret (results_cell_at2 rfl _ _ w.heap.size 90 _ hA5 _ (by kernel_rfl) Try.underlying90 rfl (by kernel_rfl)) rfl ?_
    exact ⟨by rw [HX.out, HT.out]; rfl, hB5⟩
end Go.Proofs.Ytgkbpdcedighcac

/-
  The walk of sound: Loudest.
-/
namespace Go.Proofs.Ytgkbpdcedighcac
open Go.RowKit Go.Sort

def louU (n v : Int) : Int := max (max n v) (-(max v (-4611686018427387904)))
def lou (X : Nat → Int × Int) : Nat → Int
  | 0 => 0
  | i + 1 => louU (louU (lou X i) (X i).1) (X i).2
def louJ (m : Int) (p : Int × Int) : Nat → Int
  | 0 => m
  | 1 => louU m p.1
  | _ => louU (louU m p.1) p.2
theorem louU_bd {n v : Int} (h : 0 ≤ n ∧ n ≤ 9223372036854775807) (hv : -9223372036854775808 ≤ v ∧ v ≤ 9223372036854775807) : 0 ≤ louU n v ∧ louU n v ≤ 9223372036854775807 := by
  unfold louU; omega
theorem lou_bd (X : Nat → Int × Int) : ∀ n, (∀ i, i < n → (-9223372036854775808 ≤ (X i).1 ∧ (X i).1 ≤ 9223372036854775807) ∧ (-9223372036854775808 ≤ (X i).2 ∧ (X i).2 ≤ 9223372036854775807)) → 0 ≤ lou X n ∧ lou X n ≤ 9223372036854775807
  | 0, _ => by show (0 : Int) ≤ 0 ∧ (0 : Int) ≤ 9223372036854775807; omega
  | n + 1, h => louU_bd (louU_bd (lou_bd X n fun i hi => h i (by omega)) (h n (by omega)).1) (h n (by omega)).2

set_option maxRecDepth 100000 in
set_option maxHeartbeats 4000000 in
theorem Loud_any (a : Option Addr) (n cap : Nat) (X : Nat → Int × Int) (w : World) (hz : PrAt w a n X) (hn : n ≤ 4611686018427387904)
    (hx : ∀ i, i < n → (-9223372036854775808 ≤ (X i).1 ∧ (X i).1 ≤ 9223372036854775807) ∧ (-9223372036854775808 ≤ (X i).2 ∧ (X i).2 ≤ 9223372036854775807)) :
    Calls Try.prog 56 #[.slice a n cap] w fun e w' => e = .returned (.int .i64 (lou X n)) ∧ Below w.heap.size w w' := by
  have HZ := Lib.hid hz
  have HX := Lib.hid hx
  clear hz hx
  go_enter Try.func56, Try.ntmps56
  go_wp2_with fail
  go_loopw [3, 10] (fun v i wr => ∃ j : Nat, j ≤ n ∧ i = .int .i64 (j : Int) ∧ v = .int .i64 (lou X j) ∧ Hid (Below w.heap.size w wr)) (fun _ i _ => n - (intOf i).toNat)
  case atStart => exact ⟨0, by omega, rfl, rfl, Lib.hid (Below.refl _ _)⟩
  case round =>
    obtain ⟨j, hj, rfl, rfl, HB⟩ := hrel
    by_cases hlt : j < n
    · obtain ⟨b, off, rfl, hbw, hc⟩ := HZ.out.below HB.out j hlt
      have HCL : Hid (CellsAt wr b (off + j * 2) [.int .i64 (X j).1, .int .i64 (X j).2]) := Lib.hid hc
      have hj0 : (0 : Int) ≤ (j : Int) := by omega
      have hjn : (j : Int) < (n : Int) := by omega
      have HNW : Hid (At (wr.alloc (.cells #[.int .i64 0, .int .i64 0] 87)) wr.heap.size 87 [.int .i64 0, .int .i64 0]) := Lib.hid (At.new wr _ _)
      have hone : ∀ v ∈ [Value.int .i64 (X j).1, .int .i64 (X j).2], v.oneCell' = true := by
        intro v hv
        simp at hv
        rcases hv with rfl | rfl <;> rfl
      have hb2 := HX.out j hlt
      have HLJ : Hid (lou X (j + 1) = louJ (lou X j) (X j) 2) := Lib.hid rfl
      have HL0 : Hid (lou X j = louJ (lou X j) (X j) 0) := Lib.hid rfl
      have hlb := lou_bd X j fun i hi => HX.out i (by omega)
      obtain ⟨xx, hxx⟩ : ∃ p, p = X j := ⟨_, rfl⟩
      rw [← hxx] at HLJ HL0 HCL hone hb2
      clear hc hxx
      obtain ⟨x0, x1⟩ := xx
      replace hone : ∀ v ∈ [Value.int .i64 x0, .int .i64 x1], v.oneCell' = true := hone
      replace HCL : Hid (CellsAt wr b (off + j * 2) [.int .i64 x0, .int .i64 x1]) := HCL
      replace hb2 : (-9223372036854775808 ≤ x0 ∧ x0 ≤ 9223372036854775807) ∧ (-9223372036854775808 ≤ x1 ∧ x1 ≤ 9223372036854775807) := hb2
      obtain ⟨⟨b00, b01⟩, b10, b11⟩ := hb2
      obtain ⟨l0, l1⟩ := hlb
      generalize hgl : lou X (j + 1) = lj1 at *
      have HGL := Lib.hid hgl
      clear hgl
      generalize lou X j = lj at *
      go_wp2_with (first | (with_reducible refine wpList_load_cells (by kernel_rfl) 87 (.tmp 12) rfl b (off + j * 2) rfl _ HCL.out _ Try.underlying87 rfl (by kernel_rfl) ?_) | (with_reducible refine wpList_store_row rfl 87 (.tmp 5) (.tmp 13) rfl rfl wr.heap.size (by kernel_rfl) [.int .i64 x0, .int .i64 x1] (by kernel_rfl) 87 [.int .i64 0, .int .i64 0] HNW.out (by kernel_rfl) (by kernel_rfl) hone ?_))
      intro w4 hA4 hU4
      have hb4 : Below wr.heap.size wr w4 := (((Upd.refl (· = wr.heap.size) wr).alloc _).trans hU4 fun _ _ h => h).to (Below.refl _ _) (Nat.le_refl _) (fun b h => Nat.le_of_eq h.symm)
      have HB4 := Lib.hid (step_below HB.out hb4)
      have HA4 := Lib.hid hA4
      clear hA4 hU4 hb4 HNW HCL hone HB
      go_wp2_with (with_reducible refine wpList_load_at rfl 87 (.tmp 5) rfl wr.heap.size (by kernel_rfl) 87 _ HA4.out _ Try.underlying87 rfl (by kernel_rfl) ?_)
      generalize wr.heap.size = B0 at *
      go_loopw [3, 15] (fun v i ws => ∃ k : Nat, k ≤ 2 ∧ i = .int .i64 (k : Int) ∧ v = .int .i64 (louJ lj (x0, x1) k) ∧ ws = w4) (fun _ i _ => 2 - (intOf i).toNat)
      case atStart => exact ⟨0, by omega, rfl, rfl, rfl⟩
      case round =>
        obtain ⟨k, hk, rfl, rfl, rfl⟩ := hrel
        obtain rfl | rfl | rfl : k = 0 ∨ k = 1 ∨ k = 2 := by omega
        · rw [show ((0 : Nat) : Int) = 0 from rfl, show louJ lj (x0, x1) 0 = lj from rfl]
          have hmb : 0 ≤ lj ∧ lj ≤ 9223372036854775807 := ⟨l0, l1⟩
          obtain ⟨m0, m1⟩ := hmb
          have HM : Hid (louJ lj (x0, x1) (0 + 1) = max (max (lj) x0) (-(max x0 (-4611686018427387904)))) := Lib.hid rfl
          have hidx := fun w => index_one (P := Try.prog) 87 3 2 #[.int .i64 x0, .int .i64 x1] .i64 0 _ 1 (.int .i64 x0) rfl rfl rfl (by kernel_rfl) rfl (by omega) rfl w
          generalize lj = m at *
          go_wp2
          all_goals
            go_roundw
            case rel => exact ⟨0 + 1, by omega, by go_num, by rw [HM.out]; congr 1; omega, by trivial⟩
            case measure => simp [intOf]
        · rw [show ((1 : Nat) : Int) = 1 from rfl, show louJ lj (x0, x1) 1 = louU lj x0 from rfl]
          have hmb : 0 ≤ louU lj x0 ∧ louU lj x0 ≤ 9223372036854775807 := louU_bd ⟨l0, l1⟩ ⟨b00, b01⟩
          obtain ⟨m0, m1⟩ := hmb
          have HM : Hid (louJ lj (x0, x1) (1 + 1) = max (max (louU lj x0) x1) (-(max x1 (-4611686018427387904)))) := Lib.hid rfl
          have hidx := fun w => index_one (P := Try.prog) 87 3 2 #[.int .i64 x0, .int .i64 x1] .i64 1 _ 1 (.int .i64 x1) rfl rfl rfl (by kernel_rfl) rfl (by omega) rfl w
          generalize louU lj x0 = m at *
          go_wp2
          all_goals
            go_roundw
            case rel => exact ⟨1 + 1, by omega, by go_num, by rw [HM.out]; congr 1; omega, by trivial⟩
            case measure => simp [intOf]
        · rw [show ((2 : Nat) : Int) = 2 from rfl]
          go_wp2
          go_roundw
          case rel => exact ⟨j + 1, by omega, by go_num, by rw [HGL.out, HLJ.out], HB4⟩
          case measure => simp [intOf]; omega
    · obtain rfl : j = n := by omega
      go_wp2
      go_ret
      exact ⟨rfl, HB.out⟩
end Go.Proofs.Ytgkbpdcedighcac

/-
  '==' on pairs.
-/
namespace Go.Proofs.Ytgkbpdcedighcac
open Go.RowKit Go.Sort

def eqB (f g : Nat → Int) (n : Nat) : Bool := (List.range n).all fun i => f i == g i
theorem eqB_iff (f g : Nat → Int) (n : Nat) : eqB f g n = true ↔ ∀ i, i < n → f i = g i := by simp [eqB, List.all_eq_true]
theorem eqB_same {f g : Nat → Int} {n : Nat} (h : ∀ i, i < n → f i = g i) : eqB f g n = true := (eqB_iff f g n).2 h
theorem rowI_cell {n : Nat} {f : Nat → Int} {i : Nat} (h : i < n) : (rowI n f).toArray[i]? = some (.int .i64 (f i)) := by
  rw [List.getElem?_toArray]; exact rowF_get (f := fun i => Value.int .i64 (f i)) h
theorem info64 : (Try.prog.info? 3).isSome = true := by kernel_rfl
theorem eql2 (f g : Nat → Int) : (∀ w, (binOp .eql 87 (.agg (rowI 2 f).toArray) (.agg (rowI 2 g).toArray)).run Try.prog w = .ok (.bool (eqB f g 2)) w)
    ∧ (∀ w, (binOp .neq 87 (.agg (rowI 2 f).toArray) (.agg (rowI 2 g).toArray)).run Try.prog w = .ok (.bool (!eqB f g 2)) w) := by
  obtain ⟨inf, hi⟩ := Option.isSome_iff_exists.1 info64
  refine eql_of_equal fun w => ?_
  rw [equal_ints w 9998 87 3 2 .i64 inf _ _ f g Try.underlying87 Try.underlying3 hi (by kernel_rfl) (fun i h => rowI_cell h) (fun i h => rowI_cell h)]
  rfl
def litF (xs : List Int) (i : Nat) : Int := xs.getD i 0
theorem eql_pair (x y : Int) (w : World) : (binOp .eql 87 (.agg #[.int .i64 x, .int .i64 y]) (.agg #[.int .i64 x, .int .i64 y])).run Try.prog w = .ok (.bool true) w := by
  have h := (eql2 (litF [x, y]) (litF [x, y])).1 w
  rw [eqB_same (fun _ _ => rfl)] at h
  exact h
theorem neq_pair (x y : Int) (w : World) : (binOp .neq 87 (.agg #[.int .i64 x, .int .i64 y]) (.agg #[.int .i64 x, .int .i64 y])).run Try.prog w = .ok (.bool false) w := by
  have h := (eql2 (litF [x, y]) (litF [x, y])).2 w
  rw [eqB_same (fun _ _ => rfl)] at h
  exact h
end Go.Proofs.Ytgkbpdcedighcac

/-
  What must be whatever is asked: the law 37's live.
-/
namespace Go.Proofs.Ytgkbpdcedighcac
open Go.RowKit Go.Sort NoiseP

def lvAc : List Value := [.int .i64 6, .int .u32 2091009, .int .u8 0, .bool true, .int .u8 255, .int .i64 12, .int .u32 2091013, .int .u8 0, .bool true, .int .u8 240, .int .i64 18, .int .u32 2091012, .int .u8 0, .bool true, .int .u8 223, .int .i64 24, .int .u32 2091014, .int .u8 0, .bool true, .int .u8 31]
theorem lv_acs {w : World} {g : Nat} (h : At w g 82 lvAc) : Acs w (some ⟨g, 0, none⟩) 4 liveE := by
  refine ⟨fun i hi => ⟨g, 0, rfl, h.lt, fun j v hv => ?_⟩, fun i hi => ?_⟩
  · rw [Nat.zero_add]
    have hj : j < 5 := by
      rcases Nat.lt_or_ge j 5 with h | h
      · exact h
      · rw [List.getElem?_eq_none (by show 5 ≤ j; omega)] at hv; cases hv
    refine h.cell (i * 5 + j) ?_
    rw [← hv]
    match i, hi, j, hj with
    | 0, _, 0, _ => rfl
    | 0, _, 1, _ => rfl
    | 0, _, 2, _ => rfl
    | 0, _, 3, _ => rfl
    | 0, _, 4, _ => rfl
    | 1, _, 0, _ => rfl
    | 1, _, 1, _ => rfl
    | 1, _, 2, _ => rfl
    | 1, _, 3, _ => rfl
    | 1, _, 4, _ => rfl
    | 2, _, 0, _ => rfl
    | 2, _, 1, _ => rfl
    | 2, _, 2, _ => rfl
    | 2, _, 3, _ => rfl
    | 2, _, 4, _ => rfl
    | 3, _, 0, _ => rfl
    | 3, _, 1, _ => rfl
    | 3, _, 2, _ => rfl
    | 3, _, 3, _ => rfl
    | 3, _, 4, _ => rfl
  · match i, hi with
    | 0, _ => exact ⟨by decide, by decide⟩
    | 1, _ => exact ⟨by decide, by decide⟩
    | 2, _ => exact ⟨by decide, by decide⟩
    | 3, _ => exact ⟨by decide, by decide⟩

def lvX : Nat → Int × Int := fun _ => (4, 8)
theorem lvT : tnV lvX 1 = [.int .i64 1, .int .i64 0, .int .i64 1, .int .i64 0, .int .i64 1, .int .i64 0, .int .i64 1, .int .i64 0, .int .i64 2, .int .i64 0, .int .i64 2, .int .i64 0, .int .i64 2, .int .i64 0, .int .i64 2, .int .i64 0] := by
  have h : ∀ i : Fin 16, tnF (pI (binR (sdZ lvX 0) 1)) (pI (binR (sdZ lvX 1) 1)) (if wrongP lvX 1 = 0 then 2 else 0) i.val = if i.val % 2 = 1 then 0 else if i.val < 8 then 1 else 2 := by decide +kernel
  have e : rowF 16 (fun i => Value.int .i64 (tnF (pI (binR (sdZ lvX 0) 1)) (pI (binR (sdZ lvX 1) 1)) (if wrongP lvX 1 = 0 then 2 else 0) i)) = rowF 16 (fun i => .int .i64 (if i % 2 = 1 then 0 else if i < 8 then 1 else 2)) := rowF_ext fun i hi => congrArg (Value.int .i64) (h ⟨i, hi⟩)
  exact e.trans rfl
def lvRow : List Value := [.int .i64 1, .int .i64 0, .int .i64 1, .int .i64 0, .int .i64 1, .int .i64 0, .int .i64 1, .int .i64 0, .int .i64 2, .int .i64 0, .int .i64 2, .int .i64 0, .int .i64 2, .int .i64 0, .int .i64 2, .int .i64 0]
theorem lvRow_one : ∀ v ∈ lvRow, v.oneCell' = true := by
  intro v hv
  simp only [lvRow, List.mem_cons, List.not_mem_nil, or_false] at hv
  rcases hv with rfl | rfl | rfl | rfl | rfl | rfl | rfl | rfl | rfl | rfl | rfl | rfl | rfl | rfl | rfl | rfl <;> rfl
theorem lv_lou : lou (fun i => (heL liveE 4 24 i, heR liveE 4 24 i)) 2 = 126976 := by
  show louU (louU (louU (louU 0 (heL liveE 4 24 0)) (heR liveE 4 24 0)) (heL liveE 4 24 1)) (heR liveE 4 24 1) = _
  rw [live_L0, live_R0, live_L1, live_R1]
  decide
theorem lvTW : wrongP lvX 1 = 0 := by decide +kernel

/-- The pairs of a row of the call's own, read. -/
theorem pr_read {w : World} {base n cap : Nat} {A : Option Addr} {f g : Nat → Int} (h : w.ownsRow base 87 2 (.slice A n cap) n (prRow f g n)) : PrAt w A n fun i => (f i, g i) := fun i hi => by
  rcases h.2 with ⟨_, h0⟩ | ⟨b, cp, cur, he, hb, hh, _⟩
  · omega
  · simp only [Value.slice.injEq] at he
    obtain ⟨rfl, -, rfl⟩ := he
    obtain ⟨e1, e2⟩ := prRow_get (f := f) (g := g) hi
    refine ⟨b, 0, rfl, (Array.getElem?_eq_some_iff.1 hh).1, fun j v hv => ?_⟩
    rw [Nat.zero_add]
    match j, hv with
    | 0, hv =>
      simp at hv; subst hv
      exact (h.cellAt _ (by omega)).trans e1
    | 1, hv =>
      simp at hv; subst hv
      exact (h.cellAt _ (by omega)).trans e2

theorem quiet_load_cells {P : Program} {C : World → Prop} {a : Act} {o : Oper} {K : Act → Prop} (ty : TypeId) (x : Operand) (ho : o.op = .load ty x) (g off : Nat) (hx : a.eval x = .pointer (some ⟨g, off, none⟩)) (cs : List Value)
    (d : TypeDesc) (hg : ∀ w, C w → CellsAt w g off cs) (hu : P.underlying ty = some d) (hd : (match d with | .struct _ | .array _ _ => true | _ => false) = true) (hi : (P.info? ty).map (·.size) = some cs.length)
    (hk : K (a.put o.dst (.agg cs.toArray))) : o.quiet P a C K := by
  refine ⟨.agg cs.toArray, fun w hw => ?_, hk⟩
  unfold Oper.quietAt execOp
  simp only [ho, hx, Instr.loadAt, Instr.sureAddr, Sem.run_bind, Sem.run_pure, Result.andThen_ok, run_loadVar_cells w g off ty cs d (hg w hw) hu hd hi]
  exact ⟨rfl, rfl⟩

set_option maxRecDepth 100000 in
set_option maxHeartbeats 8000000 in
theorem live37_any (w : World) : Calls Try.prog 45 #[] w fun e w' => e = .returned (.bool true) ∧ Below w.heap.size w w' := by
  have hnA : At (w.alloc (.cells lvAc.toArray 82)) w.heap.size 82 lvAc := At.new w _ _
  have hbA : Below w.heap.size w (w.alloc (.cells lvAc.toArray 82)) := (Below.refl _ w).alloc (Nat.le_refl _) _
  have K1 := Hear_ok (some ⟨w.heap.size, 0, none⟩) 4 4 liveE 24 2 (w.alloc (.cells lvAc.toArray 82)) (lv_acs hnA) (Nat.le_refl _) (fun b' off' h _ => by injection h with h; injection h with h; subst h; exact hnA.lt) (by omega) (by omega)
  have HBA := Lib.hid hbA
  clear hnA hbA
  go_enter Try.func45, Try.ntmps45
  go_wp2_with fail
  refine K1.mono ?_
  rintro e w1 ⟨⟨v, rfl, hO1⟩, hb1⟩
  obtain ⟨A1, cap1, rfl, _⟩ := own_form hO1
  have hP1 := pr_read hO1
  have HB1 := Lib.hid (step_below HBA.out hb1)
  have HP1 := Lib.hid hP1
  clear K1 hO1 hb1 hP1 HBA
  have hbT : Below w1.heap.size w1 (w1.alloc (.cells #[.int .i64 4, .int .i64 8] 87)) := (Below.refl _ w1).alloc (Nat.le_refl _) _
  have hnT : At (w1.alloc (.cells #[.int .i64 4, .int .i64 8] 87)) w1.heap.size 87 [.int .i64 4, .int .i64 8] := At.new w1 _ _
  have K2 := Tone_any (some ⟨w1.heap.size, 0, none⟩) 1 1 lvX (w1.alloc (.cells #[.int .i64 4, .int .i64 8] 87)) (fun i hi => ⟨w1.heap.size, 0, rfl, hnT.lt, fun j v hv => by
    obtain rfl : i = 0 := by omega
    exact hnT.cell (0 + 0 * 2 + j) (by rw [Nat.zero_mul, Nat.add_zero, Nat.zero_add]; exact hv)⟩) (by omega)
  rw [lvT, lvTW] at K2
  have HBT := Lib.hid (step_below HB1.out hbT)
  have HPT := Lib.hid (HP1.out.below hbT)
  clear hbT hnT HB1 HP1
  go_wp2_with fail
  refine K2.mono ?_
  rintro e w2 ⟨rfl, hb2⟩
  have HB2 := Lib.hid (step_below HBT.out hb2)
  have HP2 := Lib.hid (HPT.out.below hb2)
  clear K2 hb2 HBT HPT
  have hA3 : At (w2.alloc (.cells #[.int .i64 0, .int .i64 0, .int .i64 0, .int .i64 0, .int .i64 0, .int .i64 0, .int .i64 0, .int .i64 0, .int .i64 0, .int .i64 0, .int .i64 0, .int .i64 0, .int .i64 0, .int .i64 0, .int .i64 0, .int .i64 0] 90)) w2.heap.size 90 [.int .i64 0, .int .i64 0, .int .i64 0, .int .i64 0, .int .i64 0, .int .i64 0, .int .i64 0, .int .i64 0, .int .i64 0, .int .i64 0, .int .i64 0, .int .i64 0, .int .i64 0, .int .i64 0, .int .i64 0, .int .i64 0] := At.new w2 _ _
  go_wp2_with (with_reducible refine wpList_store_row rfl 90 (.tmp 4) (.tmp 23) rfl rfl w2.heap.size (by kernel_rfl) lvRow (by kernel_rfl) 90 _ hA3 (by kernel_rfl) (by kernel_rfl) lvRow_one ?_)
  intro w3 hA4 hU4
  have hb3 : Below w2.heap.size w2 w3 := (((Upd.refl (· = w2.heap.size) w2).alloc _).trans hU4 fun _ _ h => h).to (Below.refl _ _) (Nat.le_refl _) (fun b h => Nat.le_of_eq h.symm)
  have HA3 := Lib.hid hA4
  have HB3 := Lib.hid (step_below HB2.out hb3)
  have hP3 := HP2.out.below hb3
  have HP3 := Lib.hid hP3
  obtain ⟨b, off, hA1, hlb, hc0⟩ := hP3 0 (by omega)
  have HLB := Lib.hid hlb
  clear hlb
  obtain ⟨b', off', hA1', -, hc1⟩ := hP3 1 (by omega)
  subst hA1
  simp only [Option.some.injEq, Addr.mk.injEq, and_true] at hA1'
  obtain ⟨rfl, rfl⟩ := hA1'
  have HC0 : Hid (CellsAt w3 b off [.int .i64 0, .int .i64 0]) := Lib.hid (by
    have h : CellsAt w3 b (off + 0 * 2) [.int .i64 (heL liveE 4 24 0), .int .i64 (heR liveE 4 24 0)] := hc0
    rw [live_L0, live_R0] at h
    exact h)
  have hc1' : CellsAt w3 b (off + 1 * 2) [.int .i64 (heL liveE 4 24 1), .int .i64 (heR liveE 4 24 1)] := hc1
  rw [live_L1, live_R1] at hc1'
  have d0 : w3.cell? ⟨b, off + 2, none⟩ = some (.int .i64 126976) := hc1' 0 _ rfl
  have d1 : w3.cell? ⟨b, off + 2 + 1, none⟩ = some (.int .i64 682) := hc1' 1 _ rfl
  have d2 : w3.cell? ⟨b, off + 3, none⟩ = some (.int .i64 682) := d1
  have q0 := fun w => eql_pair 0 0 w
  have q1 := fun w => eql_pair 1 0 w
  have q2 := fun w => eql_pair 2 0 w
  clear hA3 hA4 hU4 hb3 hP3 hc0 hc1 hc1' HB2 HP2
  go_wp2_with fail
  refine (To_nil 5 w3).mono ?_
  rintro e _ ⟨rfl, rfl⟩
  go_wp2_with fail
  refine (SWr_nil 0 0 w3).mono ?_
  rintro e _ ⟨rfl, rfl⟩
  go_wp2_with fail
  refine (Sides_nil w3).mono ?_
  rintro e _ ⟨rfl, rfl⟩
  go_wp2_with fail
  have k30 := fun w => RPower_any 30 w
  rw [show powZ 30 = 22 by decide +kernel] at k30
  have kl := fun w' (hb : Below w3.heap.size w3 w') => Loud_any (some ⟨b, off, none⟩) 2 cap1 (fun i => (heL liveE 4 24 i, heR liveE 4 24 i)) w' (HP3.out.below hb) (by omega) (fun i _ => by
    have h1 := PS.left_bd (hear liveE 4 24 (i + 1)).1.y
    have h2 := PS.right_bd (hear liveE 4 24 (i + 1)).1.y
    show (-9223372036854775808 ≤ heL liveE 4 24 i ∧ heL liveE 4 24 i ≤ 9223372036854775807) ∧ (-9223372036854775808 ≤ heR liveE 4 24 i ∧ heR liveE 4 24 i ≤ 9223372036854775807)
    unfold heL heR
    omega)
  rw [lv_lou] at kl
  have kc1 : ∀ w, Calls Try.prog 94 #[.int .i64 0, .int .i64 1] w fun e w' => e = .returned (.int .i64 1) ∧ Below w.heap.size w w' := fun w => (Check_any 0 1 w).mono fun _ _ h => ⟨h.1, h.2 ▸ Below.refl _ _⟩
  have kc2 : ∀ w, Calls Try.prog 94 #[.int .i64 1, .int .i64 1001] w fun e w' => e = .returned (.int .i64 2) ∧ Below w.heap.size w w' := fun w => (Check_any 1 1001 w).mono fun _ _ h => ⟨h.1, h.2 ▸ Below.refl _ _⟩
  have kcl : ∀ w, Calls Try.prog 53 #[.pointer none] w fun e w' => e = .returned (.int .i64 0) ∧ Below w.heap.size w w' := fun w => (Cl_nil w).mono fun _ _ h => ⟨h.1, h.2 ▸ Below.refl _ _⟩
  have r0 := fun d os => cell_regrown d0 d os
  have r1 := fun d os => cell_regrown d1 d os
  have r2 := fun d os => cell_regrown d2 d os
  simp only [List.append]
  refine wp_region_quiet_below (by kernel_rfl) (by kernel_rfl) ?_
  iterate 10 go_big_quiet_step (first
    | (go_at_call 19; with_reducible exact Calls.regrown_of (k30 _))
    | (go_at_call 56; exact Calls.regrown_of (kl _ (below_regrown _ _ _)))
    | (go_at_call 94; first | with_reducible exact Calls.regrown_of (kc1 _) | with_reducible exact Calls.regrown_of (kc2 _))
    | (go_at_call 53; with_reducible exact Calls.regrown_of (kcl _)))
  go_big_quiet_want
  rename_i K hK
  refine quiet_load_cells 87 _ rfl b off rfl _ _ (fun w' hw' => HC0.out.below (below_of_regrown hw') HLB.out) Try.underlying87 rfl (by kernel_rfl) (hK _ ?_)
  clear hK K
  (conv => arg 6; whnf)
  simp only [List.setIfInBounds_toArray, List.set_cons_succ, List.set_cons_zero]
  iterate 26 go_big_quiet_step (first
    | (go_at_call 19; with_reducible exact Calls.regrown_of (k30 _))
    | (go_at_call 56; exact Calls.regrown_of (kl _ (below_regrown _ _ _)))
    | (go_at_call 94; first | with_reducible exact Calls.regrown_of (kc1 _) | with_reducible exact Calls.regrown_of (kc2 _))
    | (go_at_call 53; with_reducible exact Calls.regrown_of (kcl _)))
  go_big_quiet_want
  rename_i K hK
  refine quiet_load_part 87 _ rfl w2.heap.size 0 2 rfl 90 lvRow _ (fun w' hw' => HA3.out.below (below_of_regrown hw') HA3.out.lt) (by decide) Try.underlying87 rfl (by kernel_rfl) [.int .i64 1, .int .i64 0] (rfl) (hK _ ?_)
  clear hK K
  (conv => arg 6; whnf)
  simp only [List.setIfInBounds_toArray, List.set_cons_succ, List.set_cons_zero]
  iterate 6 go_big_quiet_step (first
    | (go_at_call 19; with_reducible exact Calls.regrown_of (k30 _))
    | (go_at_call 56; exact Calls.regrown_of (kl _ (below_regrown _ _ _)))
    | (go_at_call 94; first | with_reducible exact Calls.regrown_of (kc1 _) | with_reducible exact Calls.regrown_of (kc2 _))
    | (go_at_call 53; with_reducible exact Calls.regrown_of (kcl _)))
  go_big_quiet_want
  rename_i K hK
  refine quiet_load_part 87 _ rfl w2.heap.size 8 2 rfl 90 lvRow _ (fun w' hw' => HA3.out.below (below_of_regrown hw') HA3.out.lt) (by decide) Try.underlying87 rfl (by kernel_rfl) [.int .i64 2, .int .i64 0] (rfl) (hK _ ?_)
  clear hK K
  (conv => arg 6; whnf)
  simp only [List.setIfInBounds_toArray, List.set_cons_succ, List.set_cons_zero]
  repeat (go_big_quiet_step (first
    | (go_at_call 19; with_reducible exact Calls.regrown_of (k30 _))
    | (go_at_call 56; exact Calls.regrown_of (kl _ (below_regrown _ _ _)))
    | (go_at_call 94; first | with_reducible exact Calls.regrown_of (kc1 _) | with_reducible exact Calls.regrown_of (kc2 _))
    | (go_at_call 53; with_reducible exact Calls.regrown_of (kcl _))))
  refine wpQuiet_nil ?_
  intro w5 hw'
  have hb5 := below_of_regrown hw'
  clear hw'
  go_wp2
  go_ret
  exact ⟨rfl, step_below HB3.out hb5⟩
end Go.Proofs.Ytgkbpdcedighcac

