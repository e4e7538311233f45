/-
  The walk of the law TopRound.
-/
import Derived.Test.YtgkbpdcedighcadWaveV
import Derived.Test.YtgkbpdcedighcadOctet
import Derived.Test.YtgkbpdcedighcadOpenA
import Derived.Test.YtgkbpdcedighcadTurnE
namespace Go.Proofs.Ytgkbpdcedighcad
open Go.RowKit Go.Sort NoiseP

set_option maxRecDepth 100000 in
theorem TopRound_0_arg {H : Type} {enc : TypeId × Value → H} {w : World} {base : Nat} {spare : Nat → Bool} {held : Bool} {r : Reach} {b0 : Nat} {v : Value} {d : DataW H} {p : List MemPlace}
    (hv : Value.okWide Try.prog w r b0 57 v) (h : DataW.Trod enc Try.prog w base spare held 57 v d p) : ∃ f : Nat → Int, v = .agg (rowF 32 fun i => .int .u8 (f i)).toArray ∧ ∀ i, i < 32 → (Lit.int .u8 (f i)).wf = true :=
  arr_arg Try.underlying57 Try.underlying5 (by kernel_rfl) (by kernel_rfl) hv h

theorem wrongZ_small {z : Nat → Int} {n : Nat} (hn : n ≤ 4096) (h : ∀ i, i < n → -262144 ≤ z i ∧ z i ≤ 262144) : wrongZ z n = 0 := by
  refine wrongZ_ok (by omega) ?_
  induction n with
  | zero => rfl
  | succ n ih =>
    rw [badB, ih (by omega) fun i hi => h i (by omega)]
    have := h n (by omega)
    simp [beyB]; omega

def waveK (l : Nat → Nat) (k i : Nat) : Nat := if i < k then l i % 32 else 0
theorem waveK_step (l : Nat → Nat) (k : Nat) : (fun i => if i = k then l k % 32 else waveK l k i) = waveK l (k + 1) := by
  funext i
  unfold waveK
  by_cases h : i = k
  · subst h; simp
  · by_cases h2 : i < k
    · simp [h, h2, Nat.lt_succ_of_lt h2]
    · simp [h, h2, show ¬ i < k + 1 by omega]

theorem lvz : (binZ (waveZ fun _ => 0) 0 32).1 = -992 ∧ (binZ (waveZ fun _ => 0) 0 32).2 = 0 := by decide +kernel

set_option maxRecDepth 100000 in
set_option maxHeartbeats 8000000 in
theorem TopRound_walk (w : World) (f : Nat → Int) (hf : ∀ i, i < 32 → (Lit.int .u8 (f i)).wf = true) (q0 : Int) (hq0 : (Lit.int .u16 q0).wf = true) :
    Calls Try.prog 6 #[.agg (rowF 32 fun i => .int .u8 (f i)).toArray, .int .u16 q0] w fun e w' => e = .returned (.bool true) ∧ Below w.heap.size w w' := by
  obtain ⟨l, hl⟩ : ∃ l : Nat → Nat, ∀ i, i < 32 → f i = (l i : Int) ∧ l i < 256 := ⟨fun i => (f i).toNat, fun i hi => by have := wf_bounds_u8 (hf i hi); show f i = ((f i).toNat : Int) ∧ (f i).toNat < 256; omega⟩
  rw [show rowF 32 (fun i => Value.int .u8 (f i)) = rowF 32 fun i => Value.int .u8 (l i : Int) from rowF_ext fun i hi => by rw [(hl i hi).1]]
  have HL : Hid (∀ i, i < 32 → l i < 256) := Lib.hid fun i hi => (hl i hi).2
  obtain ⟨hq1, hq2⟩ := wf_bounds_u16 hq0
  obtain ⟨q, rfl⟩ : ∃ s : Nat, q0 = (s : Int) := ⟨q0.toNat, by omega⟩
  have e1 : (q : Int).tmod 256 = ((q % 256 : Nat) : Int) := by rw [Int.tmod_eq_emod_of_nonneg (by omega)]; rfl
  have e2 : (q : Int).tdiv 256 = ((q / 256 : Nat) : Int) := by rw [Int.tdiv_eq_ediv_of_nonneg (by omega)]; rfl
  have hqa : q % 256 < 256 := by omega
  have hqb : q / 256 < 256 := by omega
  generalize q % 256 = qa at *
  generalize q / 256 = qb at *
  obtain ⟨i0, hi, hz0, hz1, hz2⟩ := info_parts infoInt
  have HI := Lib.hid (And.intro hi (And.intro hz0 (And.intro hz1 hz2)))
  clear hf hl hi hz0 hz1 hz2 hq0
  go_enter Try.func6, Try.ntmps6
  go_wp2_with fail
  refine allocs1 (F := fun w => Calls _ _ _ w _) ?_
  intro w1 hL1 hB1 _
  replace hL1 : At w1 w.heap.size 57 (rowF 32 fun i => .int .u8 (l i : Int)) := hL1
  refine (Bit_any 1 0 w1 (by omega) (by omega)).mono ?_
  rintro e _ ⟨rfl, rfl⟩
  rw [show bitB 1 0 = true by decide +kernel]
  go_wp2_with fail
  refine (WNew_any w1).mono ?_
  rintro e w2 ⟨c, b, rfl, hb, hbc, hA2, hN2, hb2⟩
  have hL2 := hL1.below hb2 hL1.lt
  have hB2 := step_below hB1 hb2
  have hs1 : w.heap.size + 1 ≤ w1.heap.size := hL1.lt
  have hcw : w.heap.size + 1 ≤ c := by omega
  clear hL1 hB1 hb2
  go_wp2_with fail
  refine (Wave_any (fun _ => 0) w2 (fun _ _ => by omega)).mono ?_
  rintro e w3 ⟨rfl, hb3⟩
  have hL3 := hL2.below hb3 hL2.lt
  have hA3 := hA2.below hb3 hA2.lt
  have HN3 := Lib.hid (hN2.below hb3 hN2.lt)
  have hB3 := step_below hB2 hb3
  clear hb3 hL2 hA2 hN2 hB2
  have hidx : ∀ w, (Instr.index 61 (.agg (rowI 8 (pI fun k => binZ (waveZ fun _ => 0) k 32)).toArray) (.int .i64 0)).run Try.prog w = .ok (.agg #[.int .i64 (-992), .int .i64 0]) w := fun w => by
    have h := index_agg (P := Try.prog) 61 41 4 (rowI 8 (pI fun k => binZ (waveZ fun _ => 0) k 32)).toArray .i64 0 _ 2 rfl rfl rfl (by kernel_rfl) (by omega) w
    rw [h]
    have e : (rowI 8 (pI fun k => binZ (waveZ fun _ => 0) k 32)).toArray.extract ((0 : Int).toNat * 2) ((0 : Int).toNat * 2 + 2) = #[.int .i64 (binZ (waveZ fun _ => 0) 0 32).1, .int .i64 (binZ (waveZ fun _ => 0) 0 32).2] := rfl
    rw [e, lvz.1, lvz.2]
  generalize (rowI 8 (pI fun k => binZ (waveZ fun _ => 0) k 32)).toArray = wv0 at *
  have qn : ∀ w, (binOp .neq 41 (.agg #[.int .i64 (-992), .int .i64 0]) (.agg #[.int .i64 (-992), .int .i64 0])).run Try.prog w = .ok (.bool false) w := fun w => by
    have h := (eql2 (litF [-992, 0]) (litF [-992, 0])).2 w
    rw [eqB_same (fun _ _ => rfl)] at h
    exact h
  have HA3 : Hid (At w3 c 94 (wz b 0 0 0 0 0 false (waveK l 0) (0 % 32) 4096)) := Lib.hid hA3
  have HL3 := Lib.hid hL3
  have HB3 := Lib.hid hB3
  clear hA3 hL3 hB3
  go_wp2_with fail
  go_loopw [6] (fun i wr => ∃ k : Nat, k ≤ 32 ∧ i = .int .i64 k ∧ Hid (At wr c 94 (wz b 0 0 0 0 0 false (waveK l k) (k % 32) 4096)) ∧ Hid (At wr b 98 (nz 1 (perI 0) (perI 0))) ∧ Hid (At wr w.heap.size 57 (rowF 32 fun i => .int .u8 (l i : Int))) ∧ Hid (Below w.heap.size w wr)) (fun i _ => 32 - (intOf i).toNat)
  case atStart => exact ⟨0, by omega, rfl, HA3, HN3, HL3, HB3⟩
  case round =>
    clear HA3 HN3 HL3 HB3 hidx qn
    obtain ⟨k, hk, rfl, HA, HN, HLr, HB⟩ := hrel
    by_cases hlt : k < 32
    · have hck := HLr.out.cell k (rowF_get (f := fun i => Value.int .u8 (l i : Int)) hlt)
      go_wp2_with fail
      refine (Write6_wave c b 0 0 0 0 0 false _ (k % 32) 4096 wr (l k) HA.out (by omega) (HL.out k hlt) rfl (by omega)).mono ?_
      rintro e w4 ⟨rfl, hA4, hU4⟩
      have hA5 : At w4 c 94 (wz b 0 0 0 0 0 false (waveK l (k + 1)) ((k + 1) % 32) 4096) := by
        rw [show k % 32 = k by omega, waveK_step l k] at hA4
        exact hA4
      have HA5 := Lib.hid hA5
      have HN5 := Lib.hid (HN.out.upd hU4 (by omega))
      have HL5 := Lib.hid (HLr.out.upd hU4 (by omega))
      have HB5 := Lib.hid (step_upd HB.out hU4 (by omega))
      clear hA4 hA5 hU4 hck
      go_wp2
      go_round
      case rel => exact ⟨k + 1, by omega, by go_num, HA5, HN5, HL5, HB5⟩
      case measure => simp [intOf]; omega
    · obtain rfl : k = 32 := by omega
      have hA0 : At wr c 94 (wz b 0 0 0 0 0 false (waveK l 32) 0 4096) := HA.out
      go_wp2_with fail
      refine (Write2 c b 0 0 0 0 0 false _ 0 4096 wr qa hA0 (by omega) hqa).mono ?_
      rintro e w4 ⟨rfl, hA4, hU4⟩
      have hN4 := HN.out.upd hU4 (by omega)
      have hL4 := HLr.out.upd hU4 (by omega)
      have hB4 := step_upd HB.out hU4 (by omega)
      clear hU4 hA0 HA HN HLr HB
      go_wp2_with fail
      refine (Write3 c b _ 0 0 0 0 false _ 0 4096 w4 qb hA4 (by omega) hqb).mono ?_
      rintro e w5 ⟨rfl, hA5, hU5⟩
      have hN5 := hN4.upd hU5 (by omega)
      have hL5 := hL4.upd hU5 (by omega)
      have hB5 := step_upd hB4 hU5 (by omega)
      have hfr : qb % 16 * 256 + (0 / 256 * 256 + qa) % 256 < 4096 := by omega
      generalize qb % 16 * 256 + (0 / 256 * 256 + qa) % 256 = fr at *
      clear hU5 hA4 hN4 hL4 hB4
      go_wp2_with fail
      refine (Write4 c b fr 0 0 0 0 false _ 0 4096 w5 128 hA5 (by omega)).mono ?_
      rintro e w6 ⟨rfl, hA6, hU6⟩
      have HN6 := Lib.hid (hN5.upd hU6 (by omega))
      have hL6 := hL5.upd hU6 (by omega)
      have hB6 := step_upd hB5 hU6 (by omega)
      replace hA6 : At w6 c 94 (wz b fr 0 128 0 0 false (waveK l 32) (0 % 32) 4096) := hA6
      have HA6 : Hid (∃ lf, (1 ≤ lf ∧ lf ≤ 4096) ∧ At w6 c 94 (wz b fr 0 128 0 0 false (waveK l 32) (0 % 32) lf)) := Lib.hid ⟨4096, by omega, hA6⟩
      have HL6 := Lib.hid hL6
      have HB6 := Lib.hid hB6
      clear hA6 hL6 hB6 hU6 hA5 hN5 hL5 hB5
      have hcs : c < w6.heap.size := by obtain ⟨_, _, h⟩ := HA6.out; exact h.lt
      generalize hsz6 : w6.heap.size = S at *
      go_wp2
      go_loopw [7, 8] (fun v i wr => ∃ k : Nat, k ≤ 32 ∧ i = .int .i64 k ∧ Hid (wr.ownsRow S 3 1 v k ((List.range k).map fun i => .int .i64 (waveZ l i))) ∧ Hid (∃ lf, (1 ≤ lf ∧ lf ≤ 4096) ∧ At wr c 94 (wz b fr 0 128 0 0 false (waveK l 32) (k % 32) lf)) ∧ Hid (At wr b 98 (nz 1 (perI 0) (perI 0))) ∧ Hid (At wr w.heap.size 57 (rowF 32 fun i => .int .u8 (l i : Int))) ∧ Hid (Below w.heap.size w wr) ∧ S ≤ wr.heap.size) (fun _ i _ => 32 - (intOf i).toNat)
      case atStart => exact ⟨0, by omega, rfl, Lib.hid (own_nil _ _ _ _), HA6, HN6, HL6, HB6, by omega⟩
      case round =>
        clear HA6 HN6 HL6 HB6 hsz6
        obtain ⟨k, hk, rfl, HO, HA, HN, HLr, HB, hS⟩ := hrel
        by_cases hlt : k < 32
        · have HLV : Hid (lvW 128 0 false (waveK l 32) (k % 32) 1 = ((l k % 32 : Nat) : Int)) := Lib.hid (by rw [lvW, if_neg (by omega), if_neg (by omega), if_neg (by simp), show k % 32 = k by omega, waveK, if_pos hlt])
          have HZ : Hid (waveZ l k = 2 * ((l k % 32 : Nat) : Int) - 31) := Lib.hid rfl
          have hr : l k % 32 < 32 := Nat.mod_lt _ (by omega)
          obtain ⟨lf, hlf, hA⟩ := HA.out
          have hne : u7.ownBlock ≠ some w.heap.size := own_ne HO.out HLr.out (by decide)
          have hnc : u7.ownBlock ≠ some c := own_ne HO.out hA (by decide)
          have hnb : u7.ownBlock ≠ some b := own_ne HO.out HN.out (by decide)
          go_wp2_with fail
          refine (Level_w c b fr 0 128 0 0 false _ (k % 32) lf wr 1 _ _ hA HN.out (by omega) (by omega) (by omega)).mono ?_
          rintro e _ ⟨rfl, nq, rfl⟩
          rw [HLV.out]
          generalize l k % 32 = r at *
          obtain ⟨hi, hz0, hz1, hz2⟩ := HI.out
          have hO : (wr.drewN nq).ownsRow S 3 1 u7 k _ := own_upd HO.out ((Upd.refl (fun _ => False) wr).drewN nq) (fun _ _ h => h)
          have hA2 := hA.drewN nq
          have hN2 := HN.out.drewN nq
          have hL2 := HLr.out.drewN nq
          have hB2 : Below w.heap.size w (wr.drewN nq) := ⟨HB.out.os, HB.out.tape, HB.out.output, HB.out.size, HB.out.block⟩
          have hS2 : S ≤ (wr.drewN nq).heap.size := hS
          have hsz2 : w.heap.size ≤ (wr.drewN nq).heap.size := HB.out.size
          have hcs2 : c < (wr.drewN nq).heap.size := hA.lt
          generalize wr.drewN nq = wd at *
          go_wp2_with (at_builtin; refine wpList_append_own _ rfl _ _ 63 rfl S 3 i0 (.int .i64 0) 1 8 Try.underlying63 hi hz0 hz1 hz2 rfl (by decide) _ _ _ rfl (hO.alloc _) ⟨wd.heap.size, 0, none⟩ 1 1 [.int .i64 (2 * (r : Int) - 31)] rfl rfl (cell_one_new _ _ _) (by intro u hu; simp at hu; subst hu; rfl) (by unfold maxLen; omega) (by omega) (by simp; omega) ?_)
          intro v' w6' hO6 hg6 _
          rw [← HZ.out] at hO6
          have HO6 := Lib.hid (own_snoc (n := k) (f := fun i => .int .i64 (waveZ l i)) hO6)
          have hB5 : Below w.heap.size w (wd.alloc (.cells #[.int .i64 (2 * (r : Int) - 31)] 3)) := hB2.alloc hB2.size _
          have HB6 := Lib.hid (hB5.grown hg6 (by simp; omega) (fun b hb => by have := (hO.lt b hb).1; omega))
          have hA6 := (hA2.alloc _).grown hg6 hnc
          have HN6 := Lib.hid ((hN2.alloc _).grown hg6 hnb)
          have HL6 := Lib.hid ((hL2.alloc _).grown hg6 hne)
          have hS6 : S ≤ w6'.heap.size := by have := hg6.size; simp at this; omega
          clear hO6 hg6 hB5 hi hz0 hz1 hz2 hO hA2 hN2 hL2 hB2 hA hne hnc hnb HLV
          go_wp2_with fail
          refine (Until_any c b fr 0 128 0 0 false _ (k % 32) lf w6' hA6).mono ?_
          rintro e _ ⟨rfl, rfl⟩
          go_wp2_with fail
          refine (Go_quiet c b fr 0 128 0 0 _ (k % 32) lf w6' lf hA6 (by omega) (by omega) (by omega) (by omega) hlf (by omega)).mono ?_
          rintro e w7 ⟨rfl, hA7, hU7⟩
          have hne6 : v'.ownBlock ≠ some c := own_ne HO6.out hA6 (by decide)
          have HO7 := Lib.hid (own_upd HO6.out hU7 (fun b hb h => hne6 (by rw [hb, h])))
          have HA7 : Hid (∃ lf, (1 ≤ lf ∧ lf ≤ 4096) ∧ At w7 c 94 (wz b fr 0 128 0 0 false (waveK l 32) ((k + 1) % 32) lf)) := by
            refine Lib.hid ⟨_, wgLf_le 128 lf _ lf hlf (perW_pos fr 0) (by omega), ?_⟩
            have e : wgPl 128 (k % 32) lf (perW fr 0) lf = (k + 1) % 32 := by rw [wgPl, if_pos (by omega), goPl, if_neg (by omega), Int.sub_self, Int.zero_ediv]; omega
            rw [e] at hA7
            exact hA7
          have HN7 := Lib.hid (HN6.out.upd hU7 (by omega))
          have HL7 := Lib.hid (HL6.out.upd hU7 (by omega))
          have HB7 := Lib.hid (step_upd HB6.out hU7 (by omega))
          have hS7 : S ≤ w7.heap.size := Nat.le_trans hS6 hU7.size
          clear hA7 hA6 hU7 HO6 HN6 HL6 HB6 HA HN HLr HB HO
          go_wp2
          go_round
          case rel => exact ⟨k + 1, by omega, by go_num, HO7, HA7, HN7, HL7, HB7, hS7⟩
          case measure => simp [intOf]; omega
        · obtain rfl : k = 32 := by omega
          obtain ⟨a, cap, rfl, hints⟩ := ints_own HO.out
          have hwz := wrongZ_small (z := waveZ l) (n := 32) (by omega) (fun i _ => by have := waveZ_bd l i; omega)
          have hbr : binR (waveZ l) 32 = fun k => binZ (waveZ l) k 32 := by funext j; rw [binR, if_pos hwz]
          go_wp2_with fail
          refine (Of_any a 32 cap (waveZ l) wr hints (by omega)).mono ?_
          rintro e w2 ⟨rfl, hb2⟩
          rw [hwz, hbr]
          have hL2 := HLr.out.below hb2 HLr.out.lt
          have hB2 := step_below HB.out hb2
          clear hb2 HA HN HLr HB hints HO hwz hbr
          have hnew : At (w2.alloc (.cells #[.int .i64 0, .int .i64 0, .int .i64 0, .int .i64 0, .int .i64 0, .int .i64 0, .int .i64 0, .int .i64 0] 61)) w2.heap.size 61 (rowI 8 fun _ => 0) := At.new w2 _ _
          have hl2 : w.heap.size < w2.heap.size := hL2.lt
          have hL4 := hL2.alloc (.cells #[.int .i64 0, .int .i64 0, .int .i64 0, .int .i64 0, .int .i64 0, .int .i64 0, .int .i64 0, .int .i64 0] 61)
          have hB4 := hB2.alloc hB2.size (.cells #[.int .i64 0, .int .i64 0, .int .i64 0, .int .i64 0, .int .i64 0, .int .i64 0, .int .i64 0, .int .i64 0] 61)
          go_wp2_with (with_reducible refine wpList_store_row rfl 61 (.tmp 9) (.tmp 63) rfl rfl w2.heap.size (by kernel_rfl) (rowI 8 (pI fun k => binZ (waveZ l) k 32)) (by kernel_rfl) 61 (rowI 8 fun _ => 0) hnew (by kernel_rfl) (by kernel_rfl) (rowI_one _ _) ?_)
          intro w4 hA4 hU4
          have HL5 := Lib.hid (hL4.upd hU4 (by omega))
          have HA5 := Lib.hid hA4
          have HB5 := Lib.hid (step_upd hB4 hU4 (by omega))
          clear hnew hL4 hB4 hA4 hU4 hL2 hB2
          go_wp2_with fail
          have hq : ∀ w, (binOp .eql 61 (.agg (rowI 8 (pI fun k => binZ (waveZ l) k 32)).toArray) (.agg (rowI 8 (pI fun k => binZ (waveZ l) k 32)).toArray)).run Try.prog w = .ok (.bool true) w := fun w => by
            have h := (eql8 (pI fun k => binZ (waveZ l) k 32) (pI fun k => binZ (waveZ l) k 32)).1 w
            rw [eqB_same (fun _ _ => rfl)] at h
            exact h
          refine wp_region_quiet_below (by kernel_rfl) (by kernel_rfl) ?_
          go_big_quiet_step (fail)
          go_big_quiet_step (fail)
          go_big_quiet_step (fail)
          refine BigFrame.wpQuiet_want rfl fun K hK => ?_
          refine quiet_load_row 61 _ rfl w2.heap.size rfl 61 (rowI 8 (pI fun k => binZ (waveZ l) k 32)) _ (fun w' hw' => HA5.out.below (below_of_regrown hw') HA5.out.lt) Try.underlying61 rfl (by kernel_rfl) (hK _ ?_)
          clear hK K
          (conv => arg 6; whnf)
          simp only [List.setIfInBounds_toArray, List.set_cons_succ, List.set_cons_zero]
          refine BigFrame.wpQuiet_want rfl fun K hK => ?_
          refine quiet_load_row 57 _ rfl w.heap.size rfl 57 (rowF 32 fun i => .int .u8 (l i : Int)) _ (fun w' hw' => HL5.out.below (below_of_regrown hw') HL5.out.lt) Try.underlying57 rfl (by kernel_rfl) (hK _ ?_)
          clear hK K
          (conv => arg 6; whnf)
          simp only [List.setIfInBounds_toArray, List.set_cons_succ, List.set_cons_zero]
          go_big_quiet_step ((go_at_call 33; exact Calls.regrown_of (Wave_any l _ HL.out)))
          repeat (go_big_quiet_step (fail))
          refine wpQuiet_nil ?_
          intro w6 hw'
          have hb6 := below_of_regrown hw'
          clear hw'
          go_wp2
          go_ret
          exact ⟨rfl, step_below HB5.out hb6⟩
end Go.Proofs.Ytgkbpdcedighcad
