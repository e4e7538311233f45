/-
  The walk of ram: Of. Printed by gen_ramo.py.
-/
import Derived.Test.YtgkbpdcedighcacLaidD
import Derived.Test.YtgkbpdcedighcacRowL
namespace Go.Proofs.Ytgkbpdcedighcac
open Go.RowKit Go.Sort

theorem results_cell_at3' {P : Program} {fn : Func} {p u : Tmp} {ty : TypeId} (h : fn.results = #[.tmp u, .cell p ty]) (tmps : Array Value) (w : World) (g : Nat) (t : TypeId) (cs : List Value) (hA : At w g t cs) (d : TypeDesc)
    (hp : tmps.getD p undef = .pointer (some ⟨g, 0, none⟩)) (hu : P.underlying ty = some d) (hd : (match d with | .struct _ | .array _ _ => true | _ => false) = true) (hi : (P.info? ty).map (·.size) = some cs.length) :
    (results fn tmps).run P w = .ok (.tuple #[tmps.getD u undef, .agg cs.toArray]) w := by
  have e : (asAddr (.pointer (some ⟨g, 0, none⟩))).run P w = .ok ⟨g, 0, none⟩ w := rfl
  have hl := run_loadVar_row w g t ty cs.toArray (0, 0) d hA hu hd (by simpa using hi)
  have hs : (results fn tmps).run P w = ((asAddr (tmps.getD p undef)).run P w).andThen fun a w₁ => ((loadVar ty a).run P w₁).andThen fun v w₂ => .ok (.tuple #[tmps.getD u undef, v]) w₂ := by
    simp only [results, h]
    simp [Sem.run_bind, Result.andThen]
  rw [hs, hp]
  simp only [e, Result.andThen_ok, hl]

theorem fone2 (a b : Int) : ∀ v ∈ [Value.int .i64 a, .int .i64 b], v.oneCell' = true := by
  intro v hv
  simp at hv
  rcases hv with rfl | rfl <;> rfl
theorem pone (a : Int) (A : Option Addr) (n c : Nat) : ∀ v ∈ [Value.int .i64 a, .slice A n c], v.oneCell' = true := by
  intro v hv
  simp at hv
  rcases hv with rfl | rfl <;> rfl
theorem pc_cells {w : World} {b off : Nat} {x y : Value} (h1 : w.cell? ⟨b, off, none⟩ = some x) (h2 : w.cell? ⟨b, off + 1, none⟩ = some y) : CellsAt w b off [x, y] := fun j v hv => by
  match j, hv with
  | 0, hv => simp at hv; subst hv; exact h1
  | 1, hv => simp at hv; subst hv; exact h2

/-- What Of answers: the first piece that doesn't lie in; or all laid in. -/
def OfE (w w' : World) (Z : Nat → Pv) (n : Nat) (e : Ending) : Option Nat → Prop
  | some i => e = .returned (.tuple #[.pointer none, .agg #[.int .i64 1, .int .i64 (i : Int)]])
  | none => ∃ m B, e = .returned (.tuple #[.pointer (some ⟨m, 0, none⟩), .agg #[.int .i64 0, .int .i64 0]]) ∧ RamAt w' m B (laid Z n) ∧ w.heap.size ≤ m ∧ w.heap.size ≤ B

set_option maxRecDepth 100000 in
set_option maxHeartbeats 8000000 in
theorem Of_any (A : Option Addr) (n cap : Nat) (Z : Nat → Pv) (w : World) (hn : n ≤ 9223372036854775807) (hP : PcR w A n Z) : Calls Try.prog 60 #[.slice A n cap] w fun e w' => OfE w w' Z n e (badAt Z n) ∧ Below w.heap.size w w' := by
  have HP := Lib.hid hP
  clear hP
  go_enter Try.func60, Try.ntmps60
  have hbn : Below w.heap.size w (w.alloc (.cells #[.int .i64 0, .int .i64 0] 104)) := (Below.refl _ w).alloc (Nat.le_refl _) _
  have HF0 : Hid (At (w.alloc (.cells #[.int .i64 0, .int .i64 0] 104)) w.heap.size 104 [.int .i64 0, .int .i64 0]) := Lib.hid (At.new w _ _)
  go_wp2_with fail
  refine (New_ram _).mono ?_
  rintro e w1 ⟨m, B, rfl, hR1, hm1, hBm1, hB1⟩
  have HR1 := Lib.hid hR1
  have HF1 := Lib.hid (HF0.out.below hB1 HF0.out.lt)
  have HB1 := Lib.hid (step_below hbn hB1)
  have hwm : w.heap.size < m := by have := HF0.out.lt; omega
  have hwB : w.heap.size < B := by have := HF0.out.lt; omega
  clear hR1 hB1 hm1 hBm1 hbn HF0
  go_wp2_with fail
  go_loopw [12] (fun i wr => ∃ k : Nat, k ≤ n ∧ i = .int .i64 k ∧ Hid (badAt Z k = none) ∧ Hid (RamAt wr m B (laid Z k)) ∧ Hid (At wr w.heap.size 104 [.int .i64 0, .int .i64 0]) ∧ Hid (Below w.heap.size w wr)) (fun i _ => n - (intOf i).toNat)
  case atStart => exact ⟨0, Nat.zero_le _, rfl, Lib.hid rfl, HR1, HF1, HB1⟩
  case round =>
    clear HR1 HF1 HB1
    obtain ⟨k, hk, rfl, HZ, HR, HF, HB⟩ := hrel
    by_cases hlt : k < n
    · obtain ⟨b1, o1, A1, cap1, rfl, hb1, q1, q2, hml, hbb⟩ := HP.out k hlt
      have HCL := Lib.hid (pc_cells ((HB.out.cell (p := ⟨b1, o1 + k * 2, none⟩) hb1).trans q1) ((HB.out.cell (p := ⟨b1, o1 + k * 2 + 1, none⟩) hb1).trans q2))
      have HBB := Lib.hid hbb
      have hk0 : (0 : Int) ≤ (k : Int) := by omega
      have hkn : (k : Int) < (n : Int) := by omega
      have HNW : Hid (At (wr.alloc (.cells #[.int .i64 0, .slice none 0 0] 159)) wr.heap.size 159 [.int .i64 0, .slice none 0 0]) := Lib.hid (At.new wr _ _)
      have HOK : Hid ((Z k).ok ↔ 0 ≤ (Z k).z ∧ (Z k).z ≤ 8192 ∧ ((Z k).l : Int) ≤ 8192 - (Z k).z) := Lib.hid Iff.rfl
      have HLD : Hid (laid Z (k + 1) = lay (laid Z k) (Z k).z.toNat (Z k).l (Z k).g) := Lib.hid rfl
      have HBD : Hid (¬ (Z k).ok → badAt Z n = some k) := Lib.hid fun h => badAt_bad HZ.out h hlt
      have HGD : Hid ((Z k).ok → badAt Z (k + 1) = none) := Lib.hid fun h => badAt_ok HZ.out h
      clear q1 q2 hbb
      generalize (Z k).ok = okk at *
      generalize (Z k).z = zz at *
      generalize (Z k).l = ll at *
      generalize (Z k).g = gg at *
      unfold maxLen at hml
      by_cases g1 : zz < 0
      · have HBAD : Hid (badAt Z n = some k) := Lib.hid (HBD.out fun h => by have := HOK.out.1 h; omega)
        clear HBD HGD HLD HOK
        go_wp2_with (first | (with_reducible refine wpList_load_cells (by kernel_rfl) 159 (.tmp 15) rfl b1 (o1 + k * 2) rfl _ HCL.out _ Try.underlying159 rfl (by kernel_rfl) ?_) | (with_reducible refine wpList_store_row rfl 159 (.tmp 6) (.tmp 16) rfl rfl wr.heap.size (by kernel_rfl) [.int .i64 zz, .slice A1 ll cap1] (by kernel_rfl) 159 [.int .i64 0, .slice none 0 0] HNW.out (by kernel_rfl) (by kernel_rfl) (pone zz A1 ll cap1) ?_))
        intro w4 hA4 hU4
        have HA4 := Lib.hid hA4
        have hP4 : Upd (· = wr.heap.size) wr w4 := ((Upd.refl (· = wr.heap.size) wr).alloc _).trans hU4 fun _ _ h => h
        have c1 := hA4.cell 0 rfl
        have c2 := hA4.cell 1 rfl
        have hHF := HF.out.lt
        have hsz := HB.out.size
        have HF1 := Lib.hid (HF.out.upd hP4 (by show w.heap.size ≠ wr.heap.size; omega))
        have HB1 := Lib.hid (hP4.to HB.out HB.out.size (fun b hb => by show w.heap.size ≤ b; omega))
        have hmlt := HR.out.c.lt
        have hBlt := HR.out.d.lt
        have HR1 := Lib.hid (HR.out.upd hP4 (by show m ≠ wr.heap.size; omega) (by show B ≠ wr.heap.size; omega))
        clear hA4 hU4 hP4 HNW HF HB HR
        go_wp2_with (with_reducible refine wpList_store_row rfl 104 (.tmp 3) (.tmp 35) rfl rfl w.heap.size (by kernel_rfl) [.int .i64 1, .int .i64 (k : Int)] (by kernel_rfl) 104 [.int .i64 0, .int .i64 0] HF1.out (by kernel_rfl) (by kernel_rfl) (fone2 1 k) ?_)
        intro w5 hA5 hU5
        have hB5 := step_upd HB1.out hU5 (Nat.le_refl _)
        go_wp2
        refine bodyPost_ret (results_cell_at3' rfl _ _ w.heap.size 104 _ hA5 _ (by kernel_rfl) Try.underlying104 rfl (by kernel_rfl)) rfl ?_
        exact ⟨(by rw [HBAD.out]; rfl), hB5⟩
      · by_cases g2 : 8192 < zz
        · have HBAD : Hid (badAt Z n = some k) := Lib.hid (HBD.out fun h => by have := HOK.out.1 h; omega)
          clear HBD HGD HLD HOK
          go_wp2_with (first | (with_reducible refine wpList_load_cells (by kernel_rfl) 159 (.tmp 15) rfl b1 (o1 + k * 2) rfl _ HCL.out _ Try.underlying159 rfl (by kernel_rfl) ?_) | (with_reducible refine wpList_store_row rfl 159 (.tmp 6) (.tmp 16) rfl rfl wr.heap.size (by kernel_rfl) [.int .i64 zz, .slice A1 ll cap1] (by kernel_rfl) 159 [.int .i64 0, .slice none 0 0] HNW.out (by kernel_rfl) (by kernel_rfl) (pone zz A1 ll cap1) ?_))
          intro w4 hA4 hU4
          have HA4 := Lib.hid hA4
          have hP4 : Upd (· = wr.heap.size) wr w4 := ((Upd.refl (· = wr.heap.size) wr).alloc _).trans hU4 fun _ _ h => h
          have c1 := hA4.cell 0 rfl
          have c2 := hA4.cell 1 rfl
          have hHF := HF.out.lt
          have hsz := HB.out.size
          have HF1 := Lib.hid (HF.out.upd hP4 (by show w.heap.size ≠ wr.heap.size; omega))
          have HB1 := Lib.hid (hP4.to HB.out HB.out.size (fun b hb => by show w.heap.size ≤ b; omega))
          have hmlt := HR.out.c.lt
          have hBlt := HR.out.d.lt
          have HR1 := Lib.hid (HR.out.upd hP4 (by show m ≠ wr.heap.size; omega) (by show B ≠ wr.heap.size; omega))
          clear hA4 hU4 hP4 HNW HF HB HR
          go_wp2_with (with_reducible refine wpList_store_row rfl 104 (.tmp 3) (.tmp 35) rfl rfl w.heap.size (by kernel_rfl) [.int .i64 1, .int .i64 (k : Int)] (by kernel_rfl) 104 [.int .i64 0, .int .i64 0] HF1.out (by kernel_rfl) (by kernel_rfl) (fone2 1 k) ?_)
          intro w5 hA5 hU5
          have hB5 := step_upd HB1.out hU5 (Nat.le_refl _)
          go_wp2
          refine bodyPost_ret (results_cell_at3' rfl _ _ w.heap.size 104 _ hA5 _ (by kernel_rfl) Try.underlying104 rfl (by kernel_rfl)) rfl ?_
          exact ⟨(by rw [HBAD.out]; rfl), hB5⟩
        · obtain ⟨s, rfl⟩ : ∃ s : Nat, zz = s := ⟨zz.toNat, by omega⟩
          obtain ⟨d, hd⟩ : ∃ d : Nat, d = 8192 - s := ⟨_, rfl⟩
          have hsub : IntKind.i64.wrap (8192 - (s : Int)) = (d : Int) := by rw [IntKind.wrap_i64]; omega
          have g1' : ¬ (s : Int) < 0 := by omega
          by_cases g3 : (d : Int) < (ll : Int)
          · have HBAD : Hid (badAt Z n = some k) := Lib.hid (HBD.out fun h => by have := HOK.out.1 h; omega)
            clear HBD HGD HLD HOK hd g1
            go_wp2_with (first | (with_reducible refine wpList_load_cells (by kernel_rfl) 159 (.tmp 15) rfl b1 (o1 + k * 2) rfl _ HCL.out _ Try.underlying159 rfl (by kernel_rfl) ?_) | (with_reducible refine wpList_store_row rfl 159 (.tmp 6) (.tmp 16) rfl rfl wr.heap.size (by kernel_rfl) [.int .i64 (s : Int), .slice A1 ll cap1] (by kernel_rfl) 159 [.int .i64 0, .slice none 0 0] HNW.out (by kernel_rfl) (by kernel_rfl) (pone s A1 ll cap1) ?_))
            intro w4 hA4 hU4
            have HA4 := Lib.hid hA4
            have hP4 : Upd (· = wr.heap.size) wr w4 := ((Upd.refl (· = wr.heap.size) wr).alloc _).trans hU4 fun _ _ h => h
            have c1 := hA4.cell 0 rfl
            have c2 := hA4.cell 1 rfl
            have hHF := HF.out.lt
            have hsz := HB.out.size
            have HF1 := Lib.hid (HF.out.upd hP4 (by show w.heap.size ≠ wr.heap.size; omega))
            have HB1 := Lib.hid (hP4.to HB.out HB.out.size (fun b hb => by show w.heap.size ≤ b; omega))
            have hmlt := HR.out.c.lt
            have hBlt := HR.out.d.lt
            have HR1 := Lib.hid (HR.out.upd hP4 (by show m ≠ wr.heap.size; omega) (by show B ≠ wr.heap.size; omega))
            clear hA4 hU4 hP4 HNW HF HB HR
            go_wp2_with (with_reducible refine wpList_store_row rfl 104 (.tmp 3) (.tmp 35) rfl rfl w.heap.size (by kernel_rfl) [.int .i64 1, .int .i64 (k : Int)] (by kernel_rfl) 104 [.int .i64 0, .int .i64 0] HF1.out (by kernel_rfl) (by kernel_rfl) (fone2 1 k) ?_)
            intro w5 hA5 hU5
            have hB5 := step_upd HB1.out hU5 (Nat.le_refl _)
            go_wp2
            refine bodyPost_ret (results_cell_at3' rfl _ _ w.heap.size 104 _ hA5 _ (by kernel_rfl) Try.underlying104 rfl (by kernel_rfl)) rfl ?_
            exact ⟨(by rw [HBAD.out]; rfl), hB5⟩
          · have hok := HOK.out.2 (by omega)
            have HZ' := Lib.hid (HGD.out hok)
            have hsl : s + ll ≤ 8192 := by omega
            rw [Int.toNat_natCast] at HLD
            have e1 : decide ((s : Int) < 0) = false := decide_eq_false (by omega)
            have e2 : decide (8192 < (s : Int)) = false := decide_eq_false (by omega)
            have e3 : decide (d < ll) = false := decide_eq_false (by omega)
            clear HBD HGD HOK hok hd g1 g2 g3 g1'
            go_wp2_with (first | (with_reducible refine wpList_load_cells (by kernel_rfl) 159 (.tmp 15) rfl b1 (o1 + k * 2) rfl _ HCL.out _ Try.underlying159 rfl (by kernel_rfl) ?_) | (with_reducible refine wpList_store_row rfl 159 (.tmp 6) (.tmp 16) rfl rfl wr.heap.size (by kernel_rfl) [.int .i64 (s : Int), .slice A1 ll cap1] (by kernel_rfl) 159 [.int .i64 0, .slice none 0 0] HNW.out (by kernel_rfl) (by kernel_rfl) (pone s A1 ll cap1) ?_))
            intro w4 hA4 hU4
            have HA4 := Lib.hid hA4
            have hP4 : Upd (· = wr.heap.size) wr w4 := ((Upd.refl (· = wr.heap.size) wr).alloc _).trans hU4 fun _ _ h => h
            have c1 := hA4.cell 0 rfl
            have c2 := hA4.cell 1 rfl
            have hHF := HF.out.lt
            have hsz := HB.out.size
            have HF1 := Lib.hid (HF.out.upd hP4 (by show w.heap.size ≠ wr.heap.size; omega))
            have HB1 := Lib.hid (hP4.to HB.out HB.out.size (fun b hb => by show w.heap.size ≤ b; omega))
            have hmlt := HR.out.c.lt
            have hBlt := HR.out.d.lt
            have HR1 := Lib.hid (HR.out.upd hP4 (by show m ≠ wr.heap.size; omega) (by show B ≠ wr.heap.size; omega))
            clear hA4 hU4 hP4 HNW HF HB HR
            clear HP HCL
            generalize wr.heap.size = P0 at *
            have HRJ : Hid (RamAt w4 m B (lay (laid Z k) s 0 gg)) := Lib.hid (by rw [lay_zero]; exact HR1.out)
            go_wp2_with fail
            go_loopw [39] (fun i wi => ∃ j : Nat, j ≤ ll ∧ i = .int .i64 j ∧ Hid (RamAt wi m B (lay (laid Z k) s j gg)) ∧ Hid (At wi P0 159 [.int .i64 (s : Int), .slice A1 ll cap1]) ∧ Hid (At wi w.heap.size 104 [.int .i64 0, .int .i64 0]) ∧ Hid (Below w.heap.size w wi)) (fun i _ => ll - (intOf i).toNat)
            case atStart => exact ⟨0, Nat.zero_le _, rfl, HRJ, HA4, HF1, HB1⟩
            case round =>
              clear HRJ HA4 HF1 HB1 HR1 c1 c2
              obtain ⟨j, hj, rfl, HRJ, HPJ, HFJ, HBJ⟩ := hrel
              by_cases hjt : j < ll
              · obtain ⟨b3, o3, rfl, -, c3⟩ := HBB.out.below HBJ.out j hjt
                have hj0 : (0 : Int) ≤ (j : Int) := by omega
                have hjn : (j : Int) < (ll : Int) := by omega
                have c4 := HPJ.out.cell 0 rfl
                obtain ⟨x, hx⟩ : ∃ x, x = s + j := ⟨_, rfl⟩
                have hx1 : IntKind.i64.wrap ((s : Int) + (j : Int)) = (x : Int) := by rw [IntKind.wrap_i64]; omega
                have hx2 : IntKind.u16.wrap (x : Int) = (x : Int) := by rw [IntKind.wrap_u16]; omega
                have HPT : Hid (putB (lay (laid Z k) s j gg) x (gg j) = lay (laid Z k) s (j + 1) gg) := Lib.hid (by rw [hx]; exact lay_put (by omega))
                clear hx
                generalize gg j = y at *
                go_wp2_with fail
                refine (Write_any m B _ x y _ HRJ.out).mono ?_
                rintro e wj ⟨rfl, hRj, hUj⟩
                rw [HPT.out] at hRj
                have HRN := Lib.hid hRj
                have hPB : P0 ≠ B := fun h => HRJ.out.d.ne HPJ.out h.symm
                have HPN := Lib.hid (HPJ.out.upd hUj hPB)
                have HFN := Lib.hid (HFJ.out.upd hUj (by show w.heap.size ≠ B; omega))
                have HBN := Lib.hid (hUj.to HBJ.out HBJ.out.size (fun b h => by show w.heap.size ≤ b; omega))
                clear hRj hUj HRJ HPJ HFJ HBJ hPB
                go_wp2
                go_roundw
                case rel => exact ⟨j + 1, by omega, by go_num, HRN, HPN, HFN, HBN⟩
                case measure => simp [intOf]; omega
              · obtain rfl : j = ll := by omega
                have HRN : Hid (RamAt wr m B (laid Z (k + 1))) := Lib.hid (by rw [HLD.out]; exact HRJ.out)
                go_wp2
                go_roundw
                case rel => exact ⟨k + 1, by omega, by go_num, HZ', HRN, HFJ, HBJ⟩
                case measure => simp [intOf]; omega
    · obtain rfl : k = n := by omega
      go_wp2_with (with_reducible refine wpList_store_row rfl 104 (.tmp 3) (.tmp 55) rfl rfl w.heap.size (by kernel_rfl) [.int .i64 0, .int .i64 0] (by kernel_rfl) 104 [.int .i64 0, .int .i64 0] HF.out (by kernel_rfl) (by kernel_rfl) (fone2 0 0) ?_)
      intro w5 hA5 hU5
      have hB5 := step_upd HB.out hU5 (Nat.le_refl _)
      have hR5 := HR.out.upd hU5 (by show m ≠ w.heap.size; omega) (by show B ≠ w.heap.size; omega)
      go_wp2
      refine bodyPost_ret (results_cell_at3' rfl _ _ w.heap.size 104 _ hA5 _ (by kernel_rfl) Try.underlying104 rfl (by kernel_rfl)) rfl ?_
      refine ⟨?_, hB5⟩
      rw [HZ.out]
      exact ⟨m, B, rfl, hR5, by omega, by omega⟩
end Go.Proofs.Ytgkbpdcedighcac
