/-
  The walk of the law SoundTones.
-/
import Derived.Test.YtgkbpdcedighcacSoR
import Derived.Test.YtgkbpdcedighcacOpenS
import Derived.Test.YtgkbpdcedighcacOpenA
import Derived.Maps.AppendAt
namespace Go.Proofs.Ytgkbpdcedighcac
open Go.RowKit Go.Sort

def InP (p : Int × Int) : Prop := (-9223372036854775808 ≤ p.1 ∧ p.1 ≤ 9223372036854775807) ∧ (-9223372036854775808 ≤ p.2 ∧ p.2 ≤ 9223372036854775807)
def IsP2 (cs : List Value) : Prop := ∃ p : Int × Int, cs = [.int .i64 p.1, .int .i64 p.2] ∧ InP p
theorem IsP2_of {H : Type} {enc : TypeId × Value → H} {w : World} {base : Nat} {spare : Nat → Bool} {held : Bool} {m : Nat} {cs : List Value} {x : DataW H × List MemPlace}
    (h : DataW.trod enc Try.prog w base spare held m 87 cs = some x) : IsP2 cs := by
  obtain ⟨f, rfl, hf⟩ := arr_cells (n := 2) Try.underlying87 Try.underlying3 (by kernel_rfl) (by kernel_rfl) h
  exact ⟨(f 0, f 1), rfl, wf_bounds_i64 (hf 0 (by omega)), wf_bounds_i64 (hf 1 (by omega))⟩
theorem prs_of {w : World} {a : Option Addr} {n cap : Nat} {F : Nat → List Value} (h : SlR w a n cap 2 IsP2 F) : ∃ X, PrAt w a n X ∧ ∀ i, i < n → InP (X i) := by
  have hex : ∀ i, ∃ v : Int × Int, i < n → F i = [.int .i64 v.1, .int .i64 v.2] ∧ InP v := fun i => by
    by_cases hi : i < n
    · obtain ⟨v, h1, h2⟩ := (h.elem i hi).1
      exact ⟨v, fun _ => ⟨h1, h2⟩⟩
    · exact ⟨(0, 0), fun h => absurd h hi⟩
  obtain ⟨V, hV⟩ := Classical.skolem.1 hex
  refine ⟨V, fun i hi => ?_, fun i hi => (hV i hi).2⟩
  obtain ⟨_, hl, b, off, h1, h2, h3⟩ := h.elem i hi
  refine ⟨b, off, h1, h2, fun j v hv => ?_⟩
  have hj : j < 2 := by
    rcases Nat.lt_or_ge j 2 with h | h
    · exact h
    · rw [List.getElem?_eq_none (by show 2 ≤ j; omega)] at hv; cases hv
  rw [Nat.add_assoc, h3 j hj, (hV i hi).1]
  exact hv

/-- The law's word on what is wrong. -/
def wrU (m v : Int) : Int := if v < -1000000 ∨ 1000000 < v then 1 else m
def wrL (X : Nat → Int × Int) : Nat → Int
  | 0 => 0
  | n + 1 => wrU (wrU (wrL X n) (X n).1) (X n).2
def wrJ (m : Int) (p : Int × Int) : Nat → Int
  | 0 => m
  | 1 => wrU m p.1
  | _ => wrU (wrU m p.1) p.2
theorem wrL_bad (X : Nat → Int × Int) : ∀ n, wrL X n = if badP X n then 1 else 0
  | 0 => rfl
  | n + 1 => by
    rw [wrL, wrL_bad X n, badP, beyP]
    generalize badP X n = c
    generalize X n = p
    obtain ⟨x, y⟩ := p
    unfold wrU
    cases c <;> grind
theorem wrongZ_small {z : Nat → Int} {n : Nat} (hn : n ≤ 4096) (h : ∀ i, i < n → -262144 ≤ z i ∧ z i ≤ 262144) : wrongZ z n = 0 := by
  refine wrongZ_ok (by omega) ?_
  induction n with
  | zero => rfl
  | succ n ih =>
    rw [badB, ih (by omega) fun i hi => h i (by omega)]
    have := h n (by omega)
    simp [beyB]; omega
theorem dis_one {w : World} {base s n : Nat} {e : TypeId} {v v' r : Value} {xs : List Value} {S : Nat} (hr : w.ownsRow base e s r n xs) (hd : ∀ b, v.ownBlock = some b → r.ownBlock ≠ some b) (hS : w.heap.size ≤ S)
    (h5 : v'.ownBlock = v.ownBlock ∨ v'.ownBlock = some S) : ∀ b, v'.ownBlock = some b → r.ownBlock ≠ some b := fun b hb hrb => by
  rcases h5 with h | h
  · exact hd b (h ▸ hb) hrb
  · have := (hr.lt b hrb).2
    rw [hb] at h
    injection h
    omega
theorem dis_sym {v r : Value} (h : ∀ b, v.ownBlock = some b → r.ownBlock ≠ some b) : ∀ b, r.ownBlock = some b → v.ownBlock ≠ some b := fun b h1 h2 => h b h2 h1
theorem dis_ne {v r : Value} (h : ∀ b, v.ownBlock = some b → r.ownBlock ≠ some b) : r.ownBlock = none ∨ r.ownBlock ≠ v.ownBlock := by
  cases hr : r.ownBlock with
  | none => exact .inl rfl
  | some b => exact .inr fun e => h b e.symm hr
theorem ints_own {w : World} {base n cap : Nat} {A : Option Addr} {z : Nat → Int} (h : w.ownsRow base 3 1 (.slice A n cap) n ((List.range n).map fun i => .int .i64 (z i))) : IntsAt w A n z := fun i hi => by
  obtain ⟨b', cp', he, _, _, hlt', hc'⟩ := own_cell h hi
  simp only [Value.slice.injEq] at he
  obtain ⟨rfl, -, rfl⟩ := he
  exact ⟨b', 0, rfl, hlt', by rw [Nat.zero_add]; exact hc'⟩
theorem quot_bd {x : Int} (h : -9223372036854775808 ≤ x ∧ x ≤ 9223372036854775807) : -9223372036854775808 ≤ x.tdiv 4 ∧ x.tdiv 4 ≤ 9223372036854775807 := by
  have := tdiv4_bd x 9223372036854775808 h.1 (by omega)
  rcases Int.le_total 0 x with h0 | h0
  · rw [Int.tdiv_eq_ediv_of_nonneg h0]; omega
  · have e : x.tdiv 4 = -((-x) / 4) := by rw [← Int.tdiv_eq_ediv_of_nonneg (show 0 ≤ -x by omega), Int.neg_tdiv, Int.neg_neg]
    rw [e]; omega
theorem quot_small {x : Int} (h : -1000000 ≤ x ∧ x ≤ 1000000) : -262144 ≤ x.tdiv 4 ∧ x.tdiv 4 ≤ 262144 := by
  rcases Int.le_total 0 x with h0 | h0
  · rw [Int.tdiv_eq_ediv_of_nonneg h0]; omega
  · have e : x.tdiv 4 = -((-x) / 4) := by rw [← Int.tdiv_eq_ediv_of_nonneg (show 0 ≤ -x by omega), Int.neg_tdiv, Int.neg_neg]
    rw [e]; omega
theorem At.cells0 {w : World} {g : Nat} {t : TypeId} {cs : List Value} (h : At w g t cs) : CellsAt w g 0 cs := fun j v hv => by rw [Nat.zero_add]; exact h.cell j hv
theorem row4_one (p : Nat → Int) : ∀ v ∈ [Value.int .i64 (p 0), .int .i64 (p 1), .int .i64 (p 2), .int .i64 (p 3)], v.oneCell' = true := rowI_one 4 p
/-- Both rows of bins. -/
def twoF (A B : Nat → Int) (i : Nat) : Int := if i < 8 then A i else B (i - 8)
theorem tn_two (A B A' B' : Nat → Int) (hA : ∀ i, i < 8 → A i = A' i) (hB : ∀ i, i < 8 → B i = B' i) : rowI 16 (tnF A B 2) = rowI 16 (twoF A' B') := by
  unfold rowI
  refine rowF_ext fun i hi => ?_
  congr 1
  unfold tnF twoF
  rw [if_pos (by omega)]
  split
  · exact hA i (by omega)
  · exact hB (i - 8) (by omega)

set_option maxRecDepth 100000 in
set_option maxHeartbeats 16000000 in
theorem SoundTones_walk (w : World) (a : Option Addr) (n cap : Nat) (F : Nat → List Value) (s : SlR w a n cap 2 IsP2 F) :
    Calls Try.prog 13 #[.slice a n cap] w fun e w' => e = .returned (.bool true) ∧ Below w.heap.size w w' := by
  obtain ⟨X, hP, hX⟩ := prs_of s
  have H0 := Lib.hid hP
  have HX : Hid (∀ i, i < n → InP (X i)) := Lib.hid hX
  clear s hP hX
  by_cases g0 : 5000 < n
  · go_enter Try.func13, Try.ntmps13
    go_wp2_with fail
    refine (live37_any w).mono ?_
    rintro e w1 ⟨rfl, hB1⟩
    go_wp2
    (try simp only [Exit.inBlock, Exit.then])
    go_ret
    exact ⟨rfl, hB1⟩
  have hn5 : n ≤ 5000 := by omega
  obtain ⟨i0, hi0⟩ := Option.map_eq_some_iff.1 infoI
  obtain ⟨hi, hzz⟩ := hi0
  have hz0 : i0.zero = some (.int .i64 0) := congrArg Prod.fst hzz
  have hz1 : i0.size = 1 := congrArg (fun p => p.2.1) hzz
  have hz2 : i0.bytes = 8 := congrArg (fun p => p.2.2) hzz
  clear hzz
  go_enter Try.func13, Try.ntmps13
  go_wp2_with fail
  refine (live37_any w).mono ?_
  rintro e w1 ⟨rfl, hB1⟩
  have HB1 := Lib.hid hB1
  clear hB1
  go_wp2_with fail
  refine (Tone_any a n cap X w1 (H0.out.below HB1.out) (by omega)).mono ?_
  rintro e w2 ⟨rfl, hb2⟩
  have HB2 := Lib.hid (step_below HB1.out hb2)
  clear hb2 HB1
  obtain ⟨T, hT⟩ : ∃ T, T = tnF (pI (binR (sdZ X 0) n)) (pI (binR (sdZ X 1) n)) (if wrongP X n = 0 then 2 else 0) := ⟨_, rfl⟩
  have HTV : Hid (tnV X n = rowI 16 T) := Lib.hid (by rw [hT]; rfl)
  have HT := Lib.hid hT
  rw [HTV.out]
  obtain ⟨wv, hwv⟩ : ∃ x, x = wrongP X n := ⟨_, rfl⟩
  rw [← hwv]
  have HWV := Lib.hid hwv
  clear hT HTV hwv
  have HNW : Hid (At (w2.alloc (.cells #[.int .i64 0, .int .i64 0, .int .i64 0, .int .i64 0, .int .i64 0, .int .i64 0, .int .i64 0, .int .i64 0, .int .i64 0, .int .i64 0, .int .i64 0, .int .i64 0, .int .i64 0, .int .i64 0, .int .i64 0, .int .i64 0] 90)) w2.heap.size 90 [.int .i64 0, .int .i64 0, .int .i64 0, .int .i64 0, .int .i64 0, .int .i64 0, .int .i64 0, .int .i64 0, .int .i64 0, .int .i64 0, .int .i64 0, .int .i64 0, .int .i64 0, .int .i64 0, .int .i64 0, .int .i64 0]) := Lib.hid (At.new w2 _ _)
  go_wp2_with (with_reducible refine wpList_store_row rfl 90 (.tmp 3) (.tmp 24) rfl rfl w2.heap.size (by kernel_rfl) (rowI 16 T) (by kernel_rfl) 90 _ HNW.out (by kernel_rfl) (by kernel_rfl) (rowI_one _ _) ?_)
  intro w3 hA3 hU3
  have hb3 : Below w2.heap.size w2 w3 := (((Upd.refl (· = w2.heap.size) w2).alloc _).trans hU3 fun _ _ h => h).to (Below.refl _ _) (Nat.le_refl _) (fun b h => Nat.le_of_eq h.symm)
  have HA3 := Lib.hid hA3
  have HB3 := Lib.hid (step_below HB2.out hb3)
  clear hA3 hU3 hb3 HB2 HNW
  generalize w2.heap.size = B3 at *
  go_wp2_with fail
  go_loopw [5, 6, 7, 8, 9] (fun lo wg vl vr i wr => ∃ j : Nat, j ≤ n ∧ i = .int .i64 (j : Int) ∧ lo = .int .i64 (lou X j) ∧ wg = .int .i64 (wrL X j) ∧ Hid (wr.ownsRow w.heap.size 3 1 vl j ((List.range j).map fun i => .int .i64 (sdZ X 0 i))) ∧ Hid (wr.ownsRow w.heap.size 3 1 vr j ((List.range j).map fun i => .int .i64 (sdZ X 1 i))) ∧ Hid (∀ b, vl.ownBlock = some b → vr.ownBlock ≠ some b) ∧ Hid (At wr B3 90 (rowI 16 T)) ∧ Hid (Below w.heap.size w wr)) (fun _ _ _ _ i _ => n - (intOf i).toNat)
  case atStart => exact ⟨0, by omega, rfl, rfl, rfl, Lib.hid (own_nil _ _ _ _), Lib.hid (own_nil _ _ _ _), Lib.hid (fun b h => by cases h), HA3, HB3⟩
  case round =>
    clear HA3 HB3
    obtain ⟨j, hj, rfl, rfl, rfl, HL, HR, HD, HA, HB⟩ := hrel
    by_cases hlt : j < n
    · obtain ⟨b, off, rfl, hbw, hcw⟩ := H0.out j hlt
      replace hcw : CellsAt w b (off + j * 2) [.int .i64 (X j).1, .int .i64 (X j).2] := hcw
      have hc := hcw.below HB.out hbw
      replace hc : CellsAt wr b (off + j * 2) [.int .i64 (X j).1, .int .i64 (X j).2] := hc
      have hj0 : (0 : Int) ≤ (j : Int) := by omega
      have hjn : (j : Int) < (n : Int) := by omega
      have HLJ : Hid (lou X (j + 1) = louJ (lou X j) (X j) 2) := Lib.hid rfl
      have HWJ : Hid (wrL X (j + 1) = wrJ (wrL X j) (X j) 2) := Lib.hid rfl
      have hb2 : InP (X j) := HX.out j hlt
      have hlb := lou_bd X j fun i hi => HX.out i (by omega)
      have HS0 : Hid (sdZ X 0 j = (X j).1.tdiv 4) := Lib.hid rfl
      have HS1 : Hid (sdZ X 1 j = (X j).2.tdiv 4) := Lib.hid rfl
      obtain ⟨xx, hxx⟩ : ∃ p, p = X j := ⟨_, rfl⟩
      rw [← hxx] at HLJ HWJ hc hcw hb2 HS0 HS1
      clear hxx
      obtain ⟨x0, x1⟩ := xx
      obtain ⟨⟨b00, b01⟩, b10, b11⟩ := hb2
      replace b00 : -9223372036854775808 ≤ x0 := b00
      replace b01 : x0 ≤ 9223372036854775807 := b01
      replace b10 : -9223372036854775808 ≤ x1 := b10
      replace b11 : x1 ≤ 9223372036854775807 := b11
      obtain ⟨l0, l1⟩ := hlb
      have c0 : wr.cell? ⟨b, off + j * 2, none⟩ = some (.int .i64 x0) := hc 0 _ rfl
      have c1 : wr.cell? ⟨b, off + j * 2 + 1, none⟩ = some (.int .i64 x1) := hc 1 _ rfl
      have hq0 := quot_bd (x := x0) ⟨b00, b01⟩
      have hq1 := quot_bd (x := x1) ⟨b10, b11⟩
      have HCW : Hid (w.cell? ⟨b, off + j * 2 + 1, none⟩ = some (.int .i64 x1)) := Lib.hid (hcw 1 _ rfl)
      clear hc hcw
      generalize hgl : lou X (j + 1) = lj1 at *
      generalize lou X j = lj at *
      generalize hgw : wrL X (j + 1) = wj1 at *
      have HGL := Lib.hid hgl
      have HGW := Lib.hid hgw
      clear hgl hgw
      generalize wrL X j = wj at *
      go_wp2_with fail
      go_loopw [5, 6, 10] (fun lo wg i ws => ∃ k : Nat, k ≤ 2 ∧ i = .int .i64 (k : Int) ∧ lo = .int .i64 (louJ lj (x0, x1) k) ∧ wg = .int .i64 (wrJ wj (x0, x1) k) ∧ ws = wr) (fun _ _ i _ => 2 - (intOf i).toNat)
      case atStart => exact ⟨0, by omega, rfl, rfl, rfl, rfl⟩
      case round =>
        obtain ⟨k, hk, rfl, rfl, rfl, rfl⟩ := hrel
        obtain rfl | rfl | rfl : k = 0 ∨ k = 1 ∨ k = 2 := by omega
        · rw [show ((0 : Nat) : Int) = 0 from rfl, show louJ lj (x0, x1) 0 = lj from rfl, show wrJ wj (x0, x1) 0 = wj from rfl]
          have HM : Hid (louJ lj (x0, x1) (0 + 1) = max (max (lj) x0) (-(max x0 (-4611686018427387904)))) := Lib.hid rfl
          have HW : Hid (wrJ wj (x0, x1) (0 + 1) = if x0 < -1000000 ∨ 1000000 < x0 then 1 else wj) := Lib.hid rfl
          clear HLJ HWJ HS0 HS1 hq0 hq1 b10 b11
          go_wp2
          all_goals
            go_roundw
            case rel => exact ⟨0 + 1, by omega, by go_num, by rw [HM.out]; congr 1; omega, by rw [HW.out]; congr 1; grind, by trivial⟩
            case measure => simp [intOf]
        · rw [show ((1 : Nat) : Int) = 1 from rfl, show louJ lj (x0, x1) 1 = louU lj x0 from rfl, show wrJ wj (x0, x1) 1 = wrU wj x0 from rfl]
          have hmb : 0 ≤ louU lj x0 ∧ louU lj x0 ≤ 9223372036854775807 := louU_bd ⟨l0, l1⟩ ⟨b00, b01⟩
          obtain ⟨m0, m1⟩ := hmb
          have HM : Hid (louJ lj (x0, x1) (1 + 1) = max (max (louU lj x0) x1) (-(max x1 (-4611686018427387904)))) := Lib.hid rfl
          have HW : Hid (wrJ wj (x0, x1) (1 + 1) = if x1 < -1000000 ∨ 1000000 < x1 then 1 else wrU wj x0) := Lib.hid rfl
          generalize louU lj x0 = m at *
          generalize wrU wj x0 = mw at *
          clear HLJ HWJ HS0 HS1 hq0 hq1
          go_wp2
          all_goals
            go_roundw
            case rel => exact ⟨1 + 1, by omega, by go_num, by rw [HM.out]; congr 1; omega, by rw [HW.out]; congr 1; grind, by trivial⟩
            case measure => simp [intOf]
        · rw [show ((2 : Nat) : Int) = 2 from rfl]
          obtain ⟨s0, hs0⟩ : ∃ x, x = x0.tdiv 4 := ⟨_, rfl⟩
          obtain ⟨s1, hs1⟩ : ∃ x, x = x1.tdiv 4 := ⟨_, rfl⟩
          rw [← hs0] at HS0 hq0
          rw [← hs1] at HS1 hq1
          have hd0 : x0.tdiv 4 = s0 := hs0.symm
          have hd1 : x1.tdiv 4 = s1 := hs1.symm
          clear hs0 hs1
          have hw0 : wrap64 s0 = s0 := by unfold wrap64; omega
          have hw1 : wrap64 s1 = s1 := by unfold wrap64; omega
          obtain ⟨xs0, hxs0⟩ : ∃ xs : List Value, xs = (List.range j).map fun i => .int .i64 (sdZ X 0 i) := ⟨_, rfl⟩
          obtain ⟨xs1, hxs1⟩ : ∃ xs : List Value, xs = (List.range j).map fun i => .int .i64 (sdZ X 1 i) := ⟨_, rfl⟩
          rw [← hxs0] at HL
          rw [← hxs1] at HR
          have HX0 := Lib.hid hxs0
          have HX1 := Lib.hid hxs1
          clear hxs0 hxs1
          have HLA : Hid ((wr.alloc (.cells #[.int .i64 s0] 3)).ownsRow w.heap.size 3 1 u7 j xs0) := Lib.hid (HL.out.alloc _)
          have HRA : Hid ((wr.alloc (.cells #[.int .i64 s0] 3)).ownsRow w.heap.size 3 1 u8 j xs1) := Lib.hid (HR.out.alloc _)
          have HAA : Hid (At (wr.alloc (.cells #[.int .i64 s0] 3)) B3 90 (rowI 16 T)) := Lib.hid (HA.out.alloc _)
          have hba : Below w.heap.size w (wr.alloc (.cells #[.int .i64 s0] 3)) := HB.out.alloc HB.out.size _
          have HBA := Lib.hid hba
          have hsz := hba.size
          have hb8 : (j + 1) * 8 ≤ 140737488355328 := by omega
          have hml : j + 1 ≤ maxLen := by unfold maxLen; omega
          clear HL HR HA hba
          go_wp2_with (at_builtin; go_loud (refine wpList_append_own_at _ rfl _ _ 93 rfl w.heap.size 3 i0 (.int .i64 0) 1 8 Try.underlying93 hi hz0 hz1 hz2 rfl (by decide) _ j xs0 rfl HLA.out ⟨wr.heap.size, 0, none⟩ 1 1 [.int .i64 s0] rfl rfl (cell_one_new _ _ _) (by intro u hu; simp at hu; subst hu; rfl) hml hb8 hsz ?_))
          intro v5 w5 hO5 hg5 _ hd5
          have HB5 := Lib.hid (HBA.out.grown hg5 hsz (fun b hb => (HLA.out.lt b hb).1))
          have HL5 : Hid (w5.ownsRow w.heap.size 3 1 v5 (j + 1) ((List.range (j + 1)).map fun i => .int .i64 (sdZ X 0 i))) := Lib.hid (by
            rw [List.range_succ, List.map_append]
            rw [HX0.out] at hO5
            rw [show s0 = sdZ X 0 j from HS0.out.symm] at hO5
            exact hO5)
          have HR5 := Lib.hid (HRA.out.kept hg5 (dis_ne HD.out))
          have HD5 := Lib.hid (dis_one (S := wr.heap.size + 1) HRA.out HD.out (by simp) hd5)
          have HA5 := Lib.hid (HAA.out.grown hg5 (own_ne HLA.out HAA.out (by decide)))
          have c1b : w5.cell? ⟨b, off + j * 2 + 1, none⟩ = some (.int .i64 x1) := (HB5.out.cell (p := ⟨b, off + j * 2 + 1, none⟩) hbw).trans HCW.out
          clear hO5 hg5 hd5 HLA HRA HAA HBA HD hsz c0 c1
          have HRB : Hid ((w5.alloc (.cells #[.int .i64 s1] 3)).ownsRow w.heap.size 3 1 u8 j xs1) := Lib.hid (HR5.out.alloc _)
          have HLB : Hid ((w5.alloc (.cells #[.int .i64 s1] 3)).ownsRow w.heap.size 3 1 v5 (j + 1) _) := Lib.hid (HL5.out.alloc _)
          have HAB : Hid (At (w5.alloc (.cells #[.int .i64 s1] 3)) B3 90 (rowI 16 T)) := Lib.hid (HA5.out.alloc _)
          have hbb : Below w.heap.size w (w5.alloc (.cells #[.int .i64 s1] 3)) := HB5.out.alloc HB5.out.size _
          have HBB := Lib.hid hbb
          have hsz5 := hbb.size
          clear HR5 HL5 HA5 hbb
          go_wp2_with (at_builtin; go_loud (refine wpList_append_own_at _ rfl _ _ 93 rfl w.heap.size 3 i0 (.int .i64 0) 1 8 Try.underlying93 hi hz0 hz1 hz2 rfl (by decide) _ j xs1 rfl HRB.out ⟨w5.heap.size, 0, none⟩ 1 1 [.int .i64 s1] rfl rfl (cell_one_new _ _ _) (by intro u hu; simp at hu; subst hu; rfl) hml hb8 hsz5 ?_))
          intro v6 w6 hO6 hg6 _ hd6
          have HB6 := Lib.hid (HBB.out.grown hg6 hsz5 (fun b hb => (HRB.out.lt b hb).1))
          have HR6 : Hid (w6.ownsRow w.heap.size 3 1 v6 (j + 1) ((List.range (j + 1)).map fun i => .int .i64 (sdZ X 1 i))) := Lib.hid (by
            rw [List.range_succ, List.map_append]
            rw [HX1.out] at hO6
            rw [show s1 = sdZ X 1 j from HS1.out.symm] at hO6
            exact hO6)
          have HL6 := Lib.hid (HLB.out.kept hg6 (dis_ne (dis_sym HD5.out)))
          have HD6 := Lib.hid (dis_sym (dis_one (S := w5.heap.size + 1) HLB.out (dis_sym HD5.out) (by simp) hd6))
          have HA6 := Lib.hid (HAB.out.grown hg6 (own_ne HRB.out HAB.out (by decide)))
          clear hO6 hg6 hd6 HRB HLB HAB HBB HD5 HB5 c1b HB
          go_wp2
          go_roundw
          case rel => exact ⟨j + 1, by omega, by go_num, by rw [HGL.out, HLJ.out], by rw [HGW.out, HWJ.out], HL6, HR6, HD6, HA6, HB6⟩
          case measure => simp [intOf]; omega
    · obtain rfl : j = n := by omega
      have hjj : ¬ (j : Int) < (j : Int) := by omega
      by_cases h4 : 4096 < j
      · have hd : decide (4096 < (j : Int)) = true := by rw [decide_eq_true_eq]; omega
        have hw2 : wv = 2 := by rw [HWV.out, wrongP, if_pos h4]
        have HTZ : rowI 16 T = [.int .i64 0, .int .i64 0, .int .i64 0, .int .i64 0, .int .i64 0, .int .i64 0, .int .i64 0, .int .i64 0, .int .i64 0, .int .i64 0, .int .i64 0, .int .i64 0, .int .i64 0, .int .i64 0, .int .i64 0, .int .i64 0] := by
          rw [HT.out, ← HWV.out, hw2, if_neg (by omega)]; rfl
        rw [HTZ] at HA
        have KE := fun w => eql3_same (fun _ => 0) w
        replace KE : ∀ w, (binOp .eql 90 (.agg #[.int .i64 0, .int .i64 0, .int .i64 0, .int .i64 0, .int .i64 0, .int .i64 0, .int .i64 0, .int .i64 0, .int .i64 0, .int .i64 0, .int .i64 0, .int .i64 0, .int .i64 0, .int .i64 0, .int .i64 0, .int .i64 0]) (.agg #[.int .i64 0, .int .i64 0, .int .i64 0, .int .i64 0, .int .i64 0, .int .i64 0, .int .i64 0, .int .i64 0, .int .i64 0, .int .i64 0, .int .i64 0, .int .i64 0, .int .i64 0, .int .i64 0, .int .i64 0, .int .i64 0])).run Try.prog w = .ok (.bool true) w := KE
        clear HTZ HT HWV
        subst hw2
        go_wp2_with fail
        refine (Loud_any a j cap X wr (H0.out.below HB.out) (by omega) HX.out).mono ?_
        rintro e w6 ⟨rfl, hb6⟩
        have HA6 := Lib.hid (HA.out.below hb6 HA.out.lt)
        have HB6 := Lib.hid (step_below HB.out hb6)
        clear hb6 HA HB HL HR HD
        generalize lou X j = lo at *
        have x1 : (lo != lo) = false := by simp
        go_wp2_with (with_reducible refine wpList_load_at rfl 90 (.tmp 3) rfl B3 (by kernel_rfl) 90 _ HA6.out _ Try.underlying90 rfl (by kernel_rfl) ?_)
        (try simp only [Exit.inBlock, Exit.then])
        go_ret
        exact ⟨rfl, HB6.out⟩
      have hd : decide (4096 < (j : Int)) = false := by rw [decide_eq_false_iff_not]; omega
      have hwp : wv = wrL X j := by rw [HWV.out, wrongP, if_neg h4, wrL_bad]
      by_cases hbd : badP X j = true
      · have hw2 : wv = 1 := by rw [hwp, wrL_bad, if_pos hbd]
        rw [← hwp, hw2]
        clear hwp
        have HTZ : rowI 16 T = [.int .i64 0, .int .i64 0, .int .i64 0, .int .i64 0, .int .i64 0, .int .i64 0, .int .i64 0, .int .i64 0, .int .i64 0, .int .i64 0, .int .i64 0, .int .i64 0, .int .i64 0, .int .i64 0, .int .i64 0, .int .i64 0] := by
          rw [HT.out, ← HWV.out, hw2, if_neg (by omega)]; rfl
        rw [HTZ] at HA
        have KE := fun w => eql3_same (fun _ => 0) w
        replace KE : ∀ w, (binOp .eql 90 (.agg #[.int .i64 0, .int .i64 0, .int .i64 0, .int .i64 0, .int .i64 0, .int .i64 0, .int .i64 0, .int .i64 0, .int .i64 0, .int .i64 0, .int .i64 0, .int .i64 0, .int .i64 0, .int .i64 0, .int .i64 0, .int .i64 0]) (.agg #[.int .i64 0, .int .i64 0, .int .i64 0, .int .i64 0, .int .i64 0, .int .i64 0, .int .i64 0, .int .i64 0, .int .i64 0, .int .i64 0, .int .i64 0, .int .i64 0, .int .i64 0, .int .i64 0, .int .i64 0, .int .i64 0])).run Try.prog w = .ok (.bool true) w := KE
        clear HTZ HT HWV
        subst hw2
        go_wp2_with fail
        refine (Loud_any a j cap X wr (H0.out.below HB.out) (by omega) HX.out).mono ?_
        rintro e w6 ⟨rfl, hb6⟩
        have HA6 := Lib.hid (HA.out.below hb6 HA.out.lt)
        have HB6 := Lib.hid (step_below HB.out hb6)
        clear hb6 HA HB HL HR HD
        generalize lou X j = lo at *
        have x1 : (lo != lo) = false := by simp
        go_wp2_with (with_reducible refine wpList_load_at rfl 90 (.tmp 3) rfl B3 (by kernel_rfl) 90 _ HA6.out _ Try.underlying90 rfl (by kernel_rfl) ?_)
        (try simp only [Exit.inBlock, Exit.then])
        go_ret
        exact ⟨rfl, HB6.out⟩
      have hw0 : wrongP X j = 0 := by rw [wrongP, if_neg h4, if_neg hbd]
      have hw2 : wv = 0 := by rw [HWV.out, hw0]
      rw [← hwp, hw2]
      have hbx := badP_no X (n := j) (by simpa using hbd)
      have hs : ∀ k, k < 2 → ∀ i, i < j → -262144 ≤ sdZ X k i ∧ sdZ X k i ≤ 262144 := fun k hk i hi => by
        have h := hbx i hi
        unfold sdZ
        split
        · exact quot_small h.1
        · exact quot_small h.2
      have hz : ∀ k, k < 2 → wrongZ (sdZ X k) j = 0 := fun k hk => wrongZ_small (by omega) (hs k hk)
      have hfr : ∀ k, k < 2 → foldR (sdZ X k) j = foldZ (sdZ X k) j := fun k hk => by funext i; rw [foldR, if_pos (hz k hk)]
      have hpi : ∀ k, k < 2 → ∀ i, i < 8 → pI (binR (sdZ X k) j) i = binF (foldZ (sdZ X k) j) i := fun k hk i hi => by
        rw [← binF_fold (sdZ X k) j i hi]
        congr 1
        funext q
        rw [binR, if_pos (hz k hk)]
      have hfb : ∀ k, k < 2 → ∀ i, i < 4 → -2305843009213693952 ≤ foldZ (sdZ X k) j i ∧ foldZ (sdZ X k) j i ≤ 2305843009213693951 := fun k hk i _ => by
        have := foldZ_le (sdZ X k) 262144 i (by omega) j (hs k hk)
        omega
      have HTT : Hid (rowI 16 T = rowI 16 (twoF (binF (foldZ (sdZ X 0) j)) (binF (foldZ (sdZ X 1) j)))) := Lib.hid (by
        rw [HT.out, if_pos hw0]
        exact tn_two _ _ _ _ (hpi 0 (by omega)) (hpi 1 (by omega)))
      rw [HTT.out] at HA
      have K0 := fun w => Bins_any (foldZ (sdZ X 0) j) w (hfb 0 (by omega))
      have K1 := fun w => Bins_any (foldZ (sdZ X 1) j) w (hfb 1 (by omega))
      have KE := fun w => eql3_same (twoF (binF (foldZ (sdZ X 0) j)) (binF (foldZ (sdZ X 1) j))) w
      generalize hP : binF (foldZ (sdZ X 0) j) = P at *
      generalize hQ : binF (foldZ (sdZ X 1) j) = Q at *
      clear hP hQ
      have e8 : ∀ P : Nat → Int, rowI 8 P = [.int .i64 (P 0), .int .i64 (P 1), .int .i64 (P 2), .int .i64 (P 3), .int .i64 (P 4), .int .i64 (P 5), .int .i64 (P 6), .int .i64 (P 7)] := fun _ => rfl
      have e16 : rowI 16 (twoF P Q) = [.int .i64 (P 0), .int .i64 (P 1), .int .i64 (P 2), .int .i64 (P 3), .int .i64 (P 4), .int .i64 (P 5), .int .i64 (P 6), .int .i64 (P 7), .int .i64 (Q 0), .int .i64 (Q 1), .int .i64 (Q 2), .int .i64 (Q 3), .int .i64 (Q 4), .int .i64 (Q 5), .int .i64 (Q 6), .int .i64 (Q 7)] := rfl
      simp only [e8] at K0 K1
      rw [e16] at HA
      rw [e16] at KE
      generalize P 0 = p0 at *
      generalize P 1 = p1 at *
      generalize P 2 = p2 at *
      generalize P 3 = p3 at *
      generalize P 4 = p4 at *
      generalize P 5 = p5 at *
      generalize P 6 = p6 at *
      generalize P 7 = p7 at *
      generalize Q 0 = q0 at *
      generalize Q 1 = q1 at *
      generalize Q 2 = q2 at *
      generalize Q 3 = q3 at *
      generalize Q 4 = q4 at *
      generalize Q 5 = q5 at *
      generalize Q 6 = q6 at *
      generalize Q 7 = q7 at *
      clear e8 e16
      have HK0 := Lib.hid K0
      have HK1 := Lib.hid K1
      have HF0 := Lib.hid (hfr 0 (by omega))
      have HF1 := Lib.hid (hfr 1 (by omega))
      have HZ0 := Lib.hid (hz 0 (by omega))
      have HZ1 := Lib.hid (hz 1 (by omega))
      clear hs hz hfr hpi hfb K0 K1 hbx hw0 hwp HT HWV HTT
      subst hw2
      obtain ⟨AL, capL, rfl, _⟩ := own_form HL.out
      obtain ⟨AR, capR, rfl, _⟩ := own_form HR.out
      have HIL := Lib.hid (ints_own HL.out)
      have HIR := Lib.hid (ints_own HR.out)
      clear HL HR HD
      go_wp2_with fail
      refine (Loud_any a j cap X wr (H0.out.below HB.out) (by omega) HX.out).mono ?_
      rintro e w6 ⟨rfl, hb6⟩
      have HA6 := Lib.hid (HA.out.below hb6 HA.out.lt)
      have HIL6 := Lib.hid (HIL.out.step hb6)
      have HIR6 := Lib.hid (HIR.out.step hb6)
      have HB6 := Lib.hid (step_below HB.out hb6)
      clear hb6 HA HB HIL HIR
      generalize lou X j = lo at *
      have x1 : (lo != lo) = false := by simp
      go_wp2_with fail
      refine (RFold_any AL j capL (sdZ X 0) w6 HIL6.out (by omega)).mono ?_
      rintro e w7 ⟨rfl, hb7⟩
      rw [HF0.out, HZ0.out]
      have HA7 := Lib.hid (HA6.out.below hb7 HA6.out.lt)
      have HIR7 := Lib.hid (HIR6.out.step hb7)
      have HB7 := Lib.hid (step_below HB6.out hb7)
      clear hb7 HA6 HB6 HIL6 HIR6
      generalize foldZ (sdZ X 0) j = f0 at *
      generalize foldZ (sdZ X 1) j = f1 at *
      have HN8 : Hid (At (w7.alloc (.cells #[.int .i64 0, .int .i64 0, .int .i64 0, .int .i64 0] 95)) w7.heap.size 95 [.int .i64 0, .int .i64 0, .int .i64 0, .int .i64 0]) := Lib.hid (At.new w7 _ _)
      go_wp2_with (with_reducible refine wpList_store_row rfl 95 (.tmp 12) (.tmp 93) rfl rfl w7.heap.size (by kernel_rfl) (rowI 4 f0) (by kernel_rfl) 95 _ HN8.out (by kernel_rfl) (by kernel_rfl) (rowI_one _ _) ?_)
      intro w8 hF8 hU8
      have hb8 : Below w7.heap.size w7 w8 := (((Upd.refl (· = w7.heap.size) w7).alloc _).trans hU8 fun _ _ h => h).to (Below.refl _ _) (Nat.le_refl _) (fun b h => Nat.le_of_eq h.symm)
      have HF8 := Lib.hid hF8
      have HA8 := Lib.hid (HA7.out.below hb8 HA7.out.lt)
      have HIR8 := Lib.hid (HIR7.out.step hb8)
      have HB8 := Lib.hid (step_below HB7.out hb8)
      clear hF8 hU8 hb8 HN8 HA7 HIR7 HB7
      generalize w7.heap.size = B7 at *
      go_wp2_with fail
      refine (RFold_any AR j capR (sdZ X 1) w8 HIR8.out (by omega)).mono ?_
      rintro e w9 ⟨rfl, hb9⟩
      rw [HF1.out, HZ1.out]
      have HA9 := Lib.hid (HA8.out.below hb9 HA8.out.lt)
      have HF9 := Lib.hid (HF8.out.below hb9 HF8.out.lt)
      have HB9 := Lib.hid (step_below HB8.out hb9)
      clear hb9 HA8 HB8 HF8 HIR8
      have HN10 : Hid (At (w9.alloc (.cells #[.int .i64 0, .int .i64 0, .int .i64 0, .int .i64 0] 95)) w9.heap.size 95 [.int .i64 0, .int .i64 0, .int .i64 0, .int .i64 0]) := Lib.hid (At.new w9 _ _)
      go_wp2_with (with_reducible refine wpList_store_row rfl 95 (.tmp 14) (.tmp 98) rfl rfl w9.heap.size (by kernel_rfl) (rowI 4 f1) (by kernel_rfl) 95 _ HN10.out (by kernel_rfl) (by kernel_rfl) (rowI_one _ _) ?_)
      intro w10 hF10 hU10
      have hb10 : Below w9.heap.size w9 w10 := (((Upd.refl (· = w9.heap.size) w9).alloc _).trans hU10 fun _ _ h => h).to (Below.refl _ _) (Nat.le_refl _) (fun b h => Nat.le_of_eq h.symm)
      have HG10 := Lib.hid hF10
      have HA10 := Lib.hid (HA9.out.below hb10 HA9.out.lt)
      have HF10 := Lib.hid (HF9.out.below hb10 HF9.out.lt)
      have HB10 := Lib.hid (step_below HB9.out hb10)
      clear hF10 hU10 hb10 HN10 HA9 HF9 HB9
      generalize w9.heap.size = B9 at *
      go_wp2_with fail
      refine wp_region_quiet_below (by kernel_rfl) (by kernel_rfl) ?_
      go_big_quiet_want
      rename_i K hK
      refine quiet_load_cells 90 _ rfl B3 0 rfl _ _ (fun w' hw' => (HA10.out.below (below_of_regrown hw') HA10.out.lt).cells0) Try.underlying90 rfl (by kernel_rfl) (hK _ ?_)
      clear hK K
      (conv => arg 6; whnf)
      simp only [List.setIfInBounds_toArray, List.set_cons_succ, List.set_cons_zero]
      go_big_quiet_want
      rename_i K hK
      refine quiet_load_cells 95 _ rfl B7 0 rfl _ _ (fun w' hw' => (HF10.out.below (below_of_regrown hw') HF10.out.lt).cells0) Try.underlying95 rfl (by kernel_rfl) (hK _ ?_)
      clear hK K
      (conv => arg 6; whnf)
      simp only [List.setIfInBounds_toArray, List.set_cons_succ, List.set_cons_zero]
      go_big_quiet_step ((go_at_call 58; with_reducible exact Calls.regrown_of (HK0.out _)))
      go_big_quiet_want
      rename_i K hK
      refine quiet_load_cells 95 _ rfl B9 0 rfl _ _ (fun w' hw' => (HG10.out.below (below_of_regrown hw') HG10.out.lt).cells0) Try.underlying95 rfl (by kernel_rfl) (hK _ ?_)
      clear hK K
      (conv => arg 6; whnf)
      simp only [List.setIfInBounds_toArray, List.set_cons_succ, List.set_cons_zero]
      go_big_quiet_step ((go_at_call 58; with_reducible exact Calls.regrown_of (HK1.out _)))
      repeat (go_big_quiet_step (fail))
      refine wpQuiet_nil ?_
      intro w11 hw'
      have hb11 := below_of_regrown hw'
      clear hw'
      go_wp2
      go_ret
      exact ⟨rfl, step_below HB10.out hb11⟩
end Go.Proofs.Ytgkbpdcedighcac
