/-
  The walks of the reference's Make at one page, and of its Of. Printed by gen_mk.py.
-/
import Derived.Test.YtgkbpdcedighcaaRamO
import Derived.Test.YtgkbpdcedighcaaRamW
namespace Go.Proofs.Ytgkbpdcedighcaa
open Go.RowKit Go.Sort

theorem bys_zero (n : Nat) : (madeCells #[Value.int .u8 0] n).toList = bys (fun _ => 0) n := by
  rw [toList_madeCells_one]
  unfold bys
  apply List.ext_getElem?
  intro i
  by_cases hi : i < n
  · simp [hi]
  · rw [List.getElem?_eq_none (by simp; omega), List.getElem?_eq_none (by simp; omega)]

/-- What Make answers at one page. -/
def MkE (w w' : World) (Z : Nat → Pv) (n N : Nat) (e : Ending) : Option Nat → Prop
  | some i => e = .returned (.tuple #[.slice none 0 0, .agg #[.int .i64 1, .int .i64 (i : Int)]])
  | none => ∃ g, e = .returned (.tuple #[.slice (some ⟨g, 0, none⟩) N N, .agg #[.int .i64 0, .int .i64 0]]) ∧ w'.ownsRow w.heap.size 5 1 (.slice (some ⟨g, 0, none⟩) N N) N (bys (laid Z n) N)

set_option maxRecDepth 100000 in
set_option maxHeartbeats 8000000 in
theorem Mk_any (A : Option Addr) (n cap N : Nat) (Z : Nat → Pv) (w : World) (hn : n ≤ 8192) (hN : Hid (N = 8192)) (hP : PcR w A n Z) : Calls Try.prog 72 #[.int .i64 1, .slice A n cap] w fun e w' => MkE w w' Z n N e (badAt Z n) ∧ Below w.heap.size w w' := by
  have HP := Lib.hid hP
  have HN8 : Hid ((8192 : Int) = (N : Int)) := Lib.hid (by have := hN.out; omega)
  clear hP
  obtain ⟨i1, hi1⟩ := Option.map_eq_some_iff.1 infoBy
  obtain ⟨hj, hyy⟩ := hi1
  have hy0 : i1.zero = some (.int .u8 0) := congrArg Prod.fst hyy
  have hy1 : i1.size = 1 := congrArg (fun p => p.2.1) hyy
  have hy2 : i1.bytes = 1 := congrArg (fun p => p.2.2) hyy
  clear hyy
  have hby : i1.bytes * N ≤ 281474976710656 := by rw [hy2, hN.out]; decide
  have hnm : N ≤ maxLen := by rw [hN.out]; unfold maxLen; decide
  go_enter Try.func72, Try.ntmps72
  have hbn : Below w.heap.size w (w.alloc (.cells #[.int .i64 0, .int .i64 0] 74)) := (Below.refl _ w).alloc (Nat.le_refl _) _
  have HF0 : Hid (At (w.alloc (.cells #[.int .i64 0, .int .i64 0] 74)) w.heap.size 74 [.int .i64 0, .int .i64 0]) := Lib.hid (At.new w _ _)
  have hs0 := hbn.size
  go_wp2_with (at_make; go_loud (refine wpList_make_full _ rfl _ _ 77 rfl w.heap.size 5 i1 (.int .u8 0) 1 Try.underlying77 hj hy0 hy1 .i64 .i64 8192 8192 N rfl rfl HN8.out HN8.out hby hnm hs0 ?_))
  intro w1 hR1 hg1
  rw [bys_zero] at hR1
  have HR1 := Lib.hid hR1
  have HF1 := Lib.hid (HF0.out.grown hg1 (by simp))
  have HB1 := Lib.hid (hbn.grown hg1 hs0 (fun k h => by cases h))
  clear hR1 hg1 hbn HF0 hs0 hby hnm
  generalize hgg : w.heap.size + 1 = g at *
  have hwg : w.heap.size ≤ g := (own_lt HR1.out rfl).2
  have hwg2 : w.heap.size < g := by omega
  clear hgg
  go_wp2_with fail
  go_loopw [7] (fun i wr => ∃ k : Nat, k ≤ n ∧ i = .int .i64 k ∧ Hid (badAt Z k = none) ∧ Hid (wr.ownsRow w.heap.size 5 1 (.slice (some ⟨g, 0, none⟩) N N) N (bys (laid Z k) N)) ∧ Hid (At wr w.heap.size 74 [.int .i64 0, .int .i64 0]) ∧ Hid (Below w.heap.size w wr)) (fun i _ => n - (intOf i).toNat)
  case atStart => exact ⟨0, Nat.zero_le _, rfl, Lib.hid rfl, HR1, HF1, HB1⟩
  case round =>
    clear HR1 HF1 HB1
    obtain ⟨k, hk, rfl, HZ, HR, HF, HB⟩ := hrel
    by_cases hlt : k < n
    · obtain ⟨b1, o1, A1, cap1, rfl, hb1, q1, q2, hml, hbb⟩ := HP.out k hlt
      have HCL := Lib.hid (pc_cells ((HB.out.cell (p := ⟨b1, o1 + k * 2, none⟩) hb1).trans q1) ((HB.out.cell (p := ⟨b1, o1 + k * 2 + 1, none⟩) hb1).trans q2))
      have HBB := Lib.hid hbb
      have hk0 : (0 : Int) ≤ (k : Int) := by omega
      have hkn : (k : Int) < (n : Int) := by omega
      have HNW : Hid (At (wr.alloc (.cells #[.int .i64 0, .slice none 0 0] 101)) wr.heap.size 101 [.int .i64 0, .slice none 0 0]) := Lib.hid (At.new wr _ _)
      have HOK : Hid ((Z k).ok ↔ 0 ≤ (Z k).z ∧ (Z k).z ≤ 8192 ∧ ((Z k).l : Int) ≤ 8192 - (Z k).z) := Lib.hid Iff.rfl
      have HLD : Hid (laid Z (k + 1) = lay (laid Z k) (Z k).z.toNat (Z k).l (Z k).g) := Lib.hid rfl
      have HBD : Hid (¬ (Z k).ok → badAt Z n = some k) := Lib.hid fun h => badAt_bad HZ.out h hlt
      have HGD : Hid ((Z k).ok → badAt Z (k + 1) = none) := Lib.hid fun h => badAt_ok HZ.out h
      clear q1 q2 hbb
      generalize (Z k).ok = okk at *
      generalize (Z k).z = zz at *
      generalize (Z k).l = ll at *
      generalize (Z k).g = gg at *
      unfold maxLen at hml
      by_cases g1 : zz < 0
      · have HBAD : Hid (badAt Z n = some k) := Lib.hid (HBD.out fun h => by have := HOK.out.1 h; omega)
        clear HBD HGD HLD HOK
        go_wp2_with (first | (with_reducible refine wpList_load_cells (by kernel_rfl) 101 (.tmp 28) rfl b1 (o1 + k * 2) rfl _ HCL.out _ Try.underlying101 rfl (by kernel_rfl) ?_) | (with_reducible refine wpList_store_row rfl 101 (.tmp 8) (.tmp 29) rfl rfl wr.heap.size (by kernel_rfl) [.int .i64 zz, .slice A1 ll cap1] (by kernel_rfl) 101 [.int .i64 0, .slice none 0 0] HNW.out (by kernel_rfl) (by kernel_rfl) (pone zz A1 ll cap1) ?_))
        intro w4 hA4 hU4
        have HA4 := Lib.hid hA4
        have hP4 : Upd (· = wr.heap.size) wr w4 := ((Upd.refl (· = wr.heap.size) wr).alloc _).trans hU4 fun _ _ h => h
        have c1 := hA4.cell 0 rfl
        have c2 := hA4.cell 1 rfl
        have hHF := HF.out.lt
        have hsz := HB.out.size
        have hgl : g < wr.heap.size := (own_lt HR.out rfl).1
        have HF1 := Lib.hid (HF.out.upd hP4 (by show w.heap.size ≠ wr.heap.size; omega))
        have HB1 := Lib.hid (hP4.to HB.out HB.out.size (fun b hb => by show w.heap.size ≤ b; omega))
        have HR1 := Lib.hid (own_upd HR.out hP4 (fun b hb h => by have : g = b := by simpa [Value.ownBlock] using hb
                                                                  replace h : b = wr.heap.size := h
                                                                  omega))
        clear hA4 hU4 hP4 HNW HF HB HR
        go_wp2_with (with_reducible refine wpList_store_row rfl 74 (.tmp 5) (.tmp 52) rfl rfl w.heap.size (by kernel_rfl) [.int .i64 1, .int .i64 (k : Int)] (by kernel_rfl) 74 [.int .i64 0, .int .i64 0] HF1.out (by kernel_rfl) (by kernel_rfl) (fone2 1 k) ?_)
        intro w5 hA5 hU5
        have hB5 := step_upd HB1.out hU5 (Nat.le_refl _)
        go_wp2
        refine bodyPost_ret (results_cell_at3' rfl _ _ w.heap.size 74 _ hA5 _ (by kernel_rfl) Try.underlying74 rfl (by kernel_rfl)) rfl ?_
        exact ⟨(by rw [HBAD.out]; rfl), hB5⟩
      · by_cases g2 : (N : Int) < zz
        · have HBAD : Hid (badAt Z n = some k) := Lib.hid (HBD.out fun h => by have := HOK.out.1 h; have := HN8.out; omega)
          clear HBD HGD HLD HOK
          go_wp2_with (first | (with_reducible refine wpList_load_cells (by kernel_rfl) 101 (.tmp 28) rfl b1 (o1 + k * 2) rfl _ HCL.out _ Try.underlying101 rfl (by kernel_rfl) ?_) | (with_reducible refine wpList_store_row rfl 101 (.tmp 8) (.tmp 29) rfl rfl wr.heap.size (by kernel_rfl) [.int .i64 zz, .slice A1 ll cap1] (by kernel_rfl) 101 [.int .i64 0, .slice none 0 0] HNW.out (by kernel_rfl) (by kernel_rfl) (pone zz A1 ll cap1) ?_))
          intro w4 hA4 hU4
          have HA4 := Lib.hid hA4
          have hP4 : Upd (· = wr.heap.size) wr w4 := ((Upd.refl (· = wr.heap.size) wr).alloc _).trans hU4 fun _ _ h => h
          have c1 := hA4.cell 0 rfl
          have c2 := hA4.cell 1 rfl
          have hHF := HF.out.lt
          have hsz := HB.out.size
          have hgl : g < wr.heap.size := (own_lt HR.out rfl).1
          have HF1 := Lib.hid (HF.out.upd hP4 (by show w.heap.size ≠ wr.heap.size; omega))
          have HB1 := Lib.hid (hP4.to HB.out HB.out.size (fun b hb => by show w.heap.size ≤ b; omega))
          have HR1 := Lib.hid (own_upd HR.out hP4 (fun b hb h => by have : g = b := by simpa [Value.ownBlock] using hb
                                                                    replace h : b = wr.heap.size := h
                                                                    omega))
          clear hA4 hU4 hP4 HNW HF HB HR
          go_wp2_with (with_reducible refine wpList_store_row rfl 74 (.tmp 5) (.tmp 52) rfl rfl w.heap.size (by kernel_rfl) [.int .i64 1, .int .i64 (k : Int)] (by kernel_rfl) 74 [.int .i64 0, .int .i64 0] HF1.out (by kernel_rfl) (by kernel_rfl) (fone2 1 k) ?_)
          intro w5 hA5 hU5
          have hB5 := step_upd HB1.out hU5 (Nat.le_refl _)
          go_wp2
          refine bodyPost_ret (results_cell_at3' rfl _ _ w.heap.size 74 _ hA5 _ (by kernel_rfl) Try.underlying74 rfl (by kernel_rfl)) rfl ?_
          exact ⟨(by rw [HBAD.out]; rfl), hB5⟩
        · obtain ⟨s, rfl⟩ : ∃ s : Nat, zz = s := ⟨zz.toNat, by omega⟩
          obtain ⟨d, hd⟩ : ∃ d : Nat, d = N - s := ⟨_, rfl⟩
          have hsub : IntKind.i64.wrap ((N : Int) - (s : Int)) = (d : Int) := by have := HN8.out; rw [IntKind.wrap_i64]; omega
          have g1' : ¬ (s : Int) < 0 := by omega
          by_cases g3 : d < ll
          · have HBAD : Hid (badAt Z n = some k) := Lib.hid (HBD.out fun h => by have := HOK.out.1 h; have := HN8.out; omega)
            have g2' : ¬ N < s := by omega
            clear HBD HGD HLD HOK hd g1 g2
            go_wp2_with (first | (with_reducible refine wpList_load_cells (by kernel_rfl) 101 (.tmp 28) rfl b1 (o1 + k * 2) rfl _ HCL.out _ Try.underlying101 rfl (by kernel_rfl) ?_) | (with_reducible refine wpList_store_row rfl 101 (.tmp 8) (.tmp 29) rfl rfl wr.heap.size (by kernel_rfl) [.int .i64 (s : Int), .slice A1 ll cap1] (by kernel_rfl) 101 [.int .i64 0, .slice none 0 0] HNW.out (by kernel_rfl) (by kernel_rfl) (pone s A1 ll cap1) ?_))
            intro w4 hA4 hU4
            have HA4 := Lib.hid hA4
            have hP4 : Upd (· = wr.heap.size) wr w4 := ((Upd.refl (· = wr.heap.size) wr).alloc _).trans hU4 fun _ _ h => h
            have c1 := hA4.cell 0 rfl
            have c2 := hA4.cell 1 rfl
            have hHF := HF.out.lt
            have hsz := HB.out.size
            have hgl : g < wr.heap.size := (own_lt HR.out rfl).1
            have HF1 := Lib.hid (HF.out.upd hP4 (by show w.heap.size ≠ wr.heap.size; omega))
            have HB1 := Lib.hid (hP4.to HB.out HB.out.size (fun b hb => by show w.heap.size ≤ b; omega))
            have HR1 := Lib.hid (own_upd HR.out hP4 (fun b hb h => by have : g = b := by simpa [Value.ownBlock] using hb
                                                                      replace h : b = wr.heap.size := h
                                                                      omega))
            clear hA4 hU4 hP4 HNW HF HB HR
            go_wp2_with (with_reducible refine wpList_store_row rfl 74 (.tmp 5) (.tmp 52) rfl rfl w.heap.size (by kernel_rfl) [.int .i64 1, .int .i64 (k : Int)] (by kernel_rfl) 74 [.int .i64 0, .int .i64 0] HF1.out (by kernel_rfl) (by kernel_rfl) (fone2 1 k) ?_)
            intro w5 hA5 hU5
            have hB5 := step_upd HB1.out hU5 (Nat.le_refl _)
            go_wp2
            refine bodyPost_ret (results_cell_at3' rfl _ _ w.heap.size 74 _ hA5 _ (by kernel_rfl) Try.underlying74 rfl (by kernel_rfl)) rfl ?_
            exact ⟨(by rw [HBAD.out]; rfl), hB5⟩
          · have hok := HOK.out.2 (by have := HN8.out; omega)
            have HZ' := Lib.hid (HGD.out hok)
            have hsl : s + ll ≤ N := by have := HN8.out; omega
            rw [Int.toNat_natCast] at HLD
            have e1 : decide ((s : Int) < 0) = false := decide_eq_false (by omega)
            have e2 : decide (N < s) = false := decide_eq_false (by omega)
            have e3 : decide (d < ll) = false := decide_eq_false (by omega)
            clear HBD HGD HOK hok hd g1 g2 g3 g1'
            go_wp2_with (first | (with_reducible refine wpList_load_cells (by kernel_rfl) 101 (.tmp 28) rfl b1 (o1 + k * 2) rfl _ HCL.out _ Try.underlying101 rfl (by kernel_rfl) ?_) | (with_reducible refine wpList_store_row rfl 101 (.tmp 8) (.tmp 29) rfl rfl wr.heap.size (by kernel_rfl) [.int .i64 (s : Int), .slice A1 ll cap1] (by kernel_rfl) 101 [.int .i64 0, .slice none 0 0] HNW.out (by kernel_rfl) (by kernel_rfl) (pone s A1 ll cap1) ?_))
            intro w4 hA4 hU4
            have HA4 := Lib.hid hA4
            have hP4 : Upd (· = wr.heap.size) wr w4 := ((Upd.refl (· = wr.heap.size) wr).alloc _).trans hU4 fun _ _ h => h
            have c1 := hA4.cell 0 rfl
            have c2 := hA4.cell 1 rfl
            have hHF := HF.out.lt
            have hsz := HB.out.size
            have hgl : g < wr.heap.size := (own_lt HR.out rfl).1
            have HF1 := Lib.hid (HF.out.upd hP4 (by show w.heap.size ≠ wr.heap.size; omega))
            have HB1 := Lib.hid (hP4.to HB.out HB.out.size (fun b hb => by show w.heap.size ≤ b; omega))
            have HR1 := Lib.hid (own_upd HR.out hP4 (fun b hb h => by have : g = b := by simpa [Value.ownBlock] using hb
                                                                      replace h : b = wr.heap.size := h
                                                                      omega))
            clear hA4 hU4 hP4 HNW HF HB HR
            clear HP HCL
            generalize wr.heap.size = P0 at *
            have HRJ : Hid (w4.ownsRow w.heap.size 5 1 (.slice (some ⟨g, 0, none⟩) N N) N (bys (lay (laid Z k) s 0 gg) N)) := Lib.hid (by rw [lay_zero]; exact HR1.out)
            go_wp2_with fail
            go_loopw [9] (fun i wi => ∃ j : Nat, j ≤ ll ∧ i = .int .i64 j ∧ Hid (wi.ownsRow w.heap.size 5 1 (.slice (some ⟨g, 0, none⟩) N N) N (bys (lay (laid Z k) s j gg) N)) ∧ Hid (At wi P0 101 [.int .i64 (s : Int), .slice A1 ll cap1]) ∧ Hid (At wi w.heap.size 74 [.int .i64 0, .int .i64 0]) ∧ Hid (Below w.heap.size w wi)) (fun i _ => ll - (intOf i).toNat)
            case atStart => exact ⟨0, Nat.zero_le _, rfl, HRJ, HA4, HF1, HB1⟩
            case round =>
              clear HRJ HA4 HF1 HB1 HR1 c1 c2
              obtain ⟨j, hj, rfl, HRJ, HPJ, HFJ, HBJ⟩ := hrel
              have c4 := HPJ.out.cell 0 rfl
              have c5 := HPJ.out.cell 1 rfl
              by_cases hjt : j < ll
              · obtain ⟨b3, o3, rfl, -, c3⟩ := HBB.out.below HBJ.out j hjt
                have hj0 : (0 : Int) ≤ (j : Int) := by omega
                have hjn : (j : Int) < (ll : Int) := by omega
                obtain ⟨x, hx⟩ : ∃ x, x = s + j := ⟨_, rfl⟩
                have hNN := HN8.out
                have hx1 : IntKind.i64.wrap ((s : Int) + (j : Int)) = (x : Int) := by rw [IntKind.wrap_i64]; omega
                have hxN : x < N := by omega
                have hx0 : (0 : Int) ≤ (x : Int) := by omega
                have hx3 : (x : Int) < (N : Int) := by omega
                clear hNN
                have HPT : Hid ((fun i => if i = x then gg j else lay (laid Z k) s j gg i) = lay (laid Z k) s (j + 1) gg) := Lib.hid (by rw [hx, lay_succ])
                obtain ⟨g', cp', he', -, hc', hfz⟩ := bys_at HRJ.out hxN
                simp only [Value.slice.injEq, Option.some.injEq, Addr.mk.injEq, and_true, true_and] at he'
                obtain ⟨rfl, rfl⟩ := he'
                clear hx
                generalize gg j = y at *
                go_wp2_with fail
                refine region_drew_tail 11 (by kernel_rfl) (by kernel_rfl) ?_
                simp only [List.take_succ_cons, List.take_zero, List.drop_succ_cons, List.drop_zero]
                repeat (go_big_quiet_step ((fail)))
                refine wpQuiet_nil ?_
                intro _ hw'
                obtain ⟨nq, rfl⟩ := hw'
                have hPg : P0 ≠ g := fun h => own_ne HRJ.out HPJ.out (by decide) (by rw [h]; rfl)
                have hwg3 : w.heap.size ≠ g := by omega
                have hWm : (wr.drewN nq).ownsRow w.heap.size 5 1 (.slice (some ⟨g, 0, none⟩) N N) N (bys (lay (laid Z k) s j gg) N) := own_upd HRJ.out ((Upd.refl (fun _ => False) wr).drewN nq) (fun _ _ h => h)
                obtain ⟨hst, _⟩ := hWm.stored x (.int .u8 (y : Int))
                rw [bys_set x y hxN, HPT.out] at hst
                have hUj : Upd (· = g) wr ((wr.drewN nq).setCell ⟨g, x, none⟩ (.int .u8 (y : Int))) := ((Upd.refl (· = g) wr).drewN nq).here _
                have HRN := Lib.hid hst
                have HPN := Lib.hid (HPJ.out.upd hUj hPg)
                have HFN := Lib.hid (HFJ.out.upd hUj hwg3)
                have HBN := Lib.hid (hUj.to HBJ.out HBJ.out.size (fun b h => by show w.heap.size ≤ b; omega))
                clear hst hWm hUj HRJ HPJ HFJ HBJ
                go_wp2
                go_roundw
                case rel => exact ⟨j + 1, by omega, by go_num, HRN, HPN, HFN, HBN⟩
                case measure => simp [intOf]; omega
              · obtain rfl : j = ll := by omega
                have HRN : Hid (wr.ownsRow w.heap.size 5 1 (.slice (some ⟨g, 0, none⟩) N N) N (bys (laid Z (k + 1)) N)) := Lib.hid (by rw [HLD.out]; exact HRJ.out)
                go_wp2
                go_roundw
                case rel => exact ⟨k + 1, by omega, by go_num, HZ', HRN, HFJ, HBJ⟩
                case measure => simp [intOf]; omega
    · obtain rfl : k = n := by omega
      go_wp2_with (with_reducible refine wpList_store_row rfl 74 (.tmp 5) (.tmp 72) rfl rfl w.heap.size (by kernel_rfl) [.int .i64 0, .int .i64 0] (by kernel_rfl) 74 [.int .i64 0, .int .i64 0] HF.out (by kernel_rfl) (by kernel_rfl) (fone2 0 0) ?_)
      intro w5 hA5 hU5
      have hB5 := step_upd HB.out hU5 (Nat.le_refl _)
      have hR5 := own_upd HR.out hU5 (fun b hb h => by have : g = b := by simpa [Value.ownBlock] using hb
                                                       replace h : b = w.heap.size := h
                                                       omega)
      go_wp2
      refine bodyPost_ret (results_cell_at3' rfl _ _ w.heap.size 74 _ hA5 _ (by kernel_rfl) Try.underlying74 rfl (by kernel_rfl)) rfl ?_
      refine ⟨?_, hB5⟩
      rw [HZ.out]
      exact ⟨g, rfl, hR5⟩

theorem MkE_lift {w w1 w' : World} {Z : Nat → Pv} {n N : Nat} {e : Ending} {o : Option Nat} (h : MkE w1 w' Z n N e o) (hle : w.heap.size ≤ w1.heap.size) : MkE w w' Z n N e o := by
  cases o with
  | some i => exact h
  | none =>
    obtain ⟨g, h1, h2⟩ := h
    refine ⟨g, h1, h2.1, ?_⟩
    rcases h2.2 with hx | ⟨g', cap, cur, a, b, c⟩
    · exact .inl hx
    · exact .inr ⟨g', cap, cur, a, Nat.le_trans hle b, c⟩

set_option maxRecDepth 100000 in
set_option maxHeartbeats 4000000 in
theorem ROf_any (A : Option Addr) (n cap N : Nat) (Z : Nat → Pv) (w : World) (hn : n ≤ 8192) (hN : Hid (N = 8192)) (hP : PcR w A n Z) : Calls Try.prog 48 #[.slice A n cap] w fun e w' => MkE w w' Z n N e (badAt Z n) ∧ Below w.heap.size w w' := by
  have hbn : Below w.heap.size w (w.alloc (.cells #[.int .i64 0, .int .i64 0] 74)) := (Below.refl _ w).alloc (Nat.le_refl _) _
  have HF0 : Hid (At (w.alloc (.cells #[.int .i64 0, .int .i64 0] 74)) w.heap.size 74 [.int .i64 0, .int .i64 0]) := Lib.hid (At.new w _ _)
  have K := Mk_any A n cap N Z _ hn hN (hP.below hbn)
  have HBN := Lib.hid hbn
  clear hP hbn
  go_enter Try.func48, Try.ntmps48
  go_wp2_with fail
  refine K.mono ?_
  rintro e w1 ⟨hE, hB1⟩
  have HF1 := Lib.hid (HF0.out.below hB1 HF0.out.lt)
  have HB1 := Lib.hid (step_below HBN.out hB1)
  have HE := Lib.hid (MkE_lift (w := w) hE HBN.out.size)
  clear hE hB1 K HF0
  cases hb : badAt Z n with
  | some i =>
    have hE := HE.out
    rw [hb] at hE
    obtain rfl : e = .returned (.tuple #[.slice none 0 0, .agg #[.int .i64 1, .int .i64 (i : Int)]]) := hE
    have HBB := Lib.hid hb
    clear HE hb
    go_wp2_with (with_reducible refine wpList_store_row rfl 74 (.tmp 3) (.tmp 7) rfl rfl w.heap.size (by kernel_rfl) [.int .i64 1, .int .i64 (i : Int)] (by kernel_rfl) 74 [.int .i64 0, .int .i64 0] HF1.out (by kernel_rfl) (by kernel_rfl) (fone2 1 i) ?_)
    intro w5 hA5 hU5
    have hB5 := step_upd HB1.out hU5 (Nat.le_refl _)
    go_wp2
    refine bodyPost_ret (results_cell_at3' rfl _ _ w.heap.size 74 _ hA5 _ (by kernel_rfl) Try.underlying74 rfl (by kernel_rfl)) rfl ?_
    exact ⟨(by rw [HBB.out]; rfl), hB5⟩
  | none =>
    have hE := HE.out
    rw [hb] at hE
    obtain ⟨g, rfl, hO⟩ := hE
    have HO := Lib.hid hO
    have HBB := Lib.hid hb
    clear HE hO hb
    go_wp2_with (with_reducible refine wpList_store_row rfl 74 (.tmp 3) (.tmp 7) rfl rfl w.heap.size (by kernel_rfl) [.int .i64 0, .int .i64 0] (by kernel_rfl) 74 [.int .i64 0, .int .i64 0] HF1.out (by kernel_rfl) (by kernel_rfl) (fone2 0 0) ?_)
    intro w5 hA5 hU5
    have hB5 := step_upd HB1.out hU5 (Nat.le_refl _)
    have hne : (Value.slice (some ⟨g, 0, none⟩) N N).ownBlock ≠ some w.heap.size := own_ne HO.out HF1.out (by decide)
    have hO5 := own_upd HO.out hU5 (fun b hb h => hne (by rw [hb]; exact congrArg some h))
    go_wp2
    refine bodyPost_ret (results_cell_at3' rfl _ _ w.heap.size 74 _ hA5 _ (by kernel_rfl) Try.underlying74 rfl (by kernel_rfl)) rfl ?_
    refine ⟨?_, hB5⟩
    rw [HBB.out]
    exact ⟨g, rfl, hO5⟩
end Go.Proofs.Ytgkbpdcedighcaa
