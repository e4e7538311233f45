/-
  The walk of the law MixChannels.
-/
import Derived.Test.YtgkbpdcedighcacMixL
import Derived.Test.YtgkbpdcedighcacRMixS
import Derived.Test.YtgkbpdcedighcacRPsgW
import Derived.Test.YtgkbpdcedighcacRPsgV
import Derived.Test.YtgkbpdcedighcacOpenA
namespace Go.Proofs.Ytgkbpdcedighcac
open Go.RowKit Go.Sort NoiseP

def IsPair2 (cs : List Value) : Prop := ∃ a b : Nat, cs = [.int .u8 (a : Int), .int .u8 (b : Int)] ∧ a < 256 ∧ b < 256

set_option maxRecDepth 100000 in
theorem IsPair2_of {H : Type} {enc : TypeId × Value → H} {w : World} {base : Nat} {spare : Nat → Bool} {held : Bool} {m : Nat} {cs : List Value} {x : DataW H × List MemPlace}
    (h : DataW.trod enc Try.prog w base spare held m 40 cs = some x) : IsPair2 cs := by
  obtain ⟨f, rfl, hf⟩ := arr_cells Try.underlying40 Try.underlying5 (by kernel_rfl) (by kernel_rfl) h
  have h0 := wf_bounds_u8 (hf 0 (by omega))
  have h1 := wf_bounds_u8 (hf 1 (by omega))
  refine ⟨(f 0).toNat, (f 1).toNat, ?_, by omega, by omega⟩
  rw [Int.toNat_of_nonneg h0.1, Int.toNat_of_nonneg h1.1]
  rfl

def Rows2 (w : World) (a : Option Addr) (n : Nat) (F : Nat → List Value) : Prop := RowOf w a n 2 F ∧ ∀ i, i < n → IsPair2 (F i)
theorem rows2 {w : World} {a : Option Addr} {n cap : Nat} {F : Nat → List Value} (h : SlR w a n cap 2 IsPair2 F) : Rows2 w a n F :=
  ⟨fun i hi => by
    obtain ⟨_, hl, b, off, h1, h2, h3⟩ := h.elem i hi
    exact ⟨b, off, h1, h2, fun j v hv => by
      have hj : j < 2 := by
        rcases Nat.lt_or_ge j 2 with h | h
        · exact h
        · rw [List.getElem?_eq_none (by omega)] at hv; cases hv
      rw [Nat.add_assoc, h3 j hj, hv]⟩, fun i hi => (h.elem i hi).1⟩

set_option maxRecDepth 100000 in
set_option maxHeartbeats 16000000 in
theorem MixChannels_walk (w : World) (a : Option Addr) (n cap : Nat) (F : Nat → List Value) (s : SlR w a n cap 2 IsPair2 F) :
    Calls Try.prog 5 #[.slice a n cap] w fun e w' => e = .returned (.bool true) ∧ Below w.heap.size w w' := by
  have hm := s.max
  have hle := s.le
  unfold maxLen at hm
  have HS := Lib.hid (rows2 s)
  clear s
  by_cases hlong : 100 < n
  · have hd : decide (100 < (n : Int)) = true := by rw [decide_eq_true_eq]; omega
    go_enter Try.func5, Try.ntmps5
    go_wp2_with fail
    refine (live16_any w).mono ?_
    rintro e w1 ⟨rfl, hB1⟩
    go_wp2
    go_ret
    exact ⟨rfl, hB1⟩
  · have hd : decide (100 < (n : Int)) = false := by rw [decide_eq_false_iff_not]; omega
    go_enter Try.func5, Try.ntmps5
    go_wp2_with fail
    refine (live16_any w).mono ?_
    rintro e w1 ⟨rfl, hB1⟩
    have hS1 := HS.out.1.below hB1
    have hlt1 : ∀ b' off, a = some ⟨b', off, none⟩ → 0 < n → b' < w1.heap.size := fun b' off h h0 => hS1.lt h0 h
    have hsz1 := hB1.size
    go_wp2_with fail
    refine (PNew_any w1).mono ?_
    rintro e w2 ⟨g, c, b, rfl, hG2, hg2, hb2⟩
    have hS2 := hS1.below hb2
    have hB2 := step_below hB1 hb2
    have hsz2 := hb2.size
    clear hb2 hS1 hB1
    go_wp2_with fail
    refine (RPNew_any w2).mono ?_
    rintro e w3 ⟨h, d, q, rfl, hR3, hh3, hb3⟩
    have HG3 := Lib.hid (hG2.below hb3)
    have HR3 := Lib.hid hR3
    have HS3 := Lib.hid (hS2.below hb3)
    have HB3 := Lib.hid (step_below hB2 hb3)
    have HGE : Hid (∀ k, OwnP g c b k → w1.heap.size ≤ k) := Lib.hid hg2
    have HHE : Hid (∀ k, OwnP h d q k → w2.heap.size ≤ k) := Lib.hid hh3
    have HGL : Hid (∀ k, OwnP g c b k → k < w2.heap.size) := Lib.hid fun k hk => hG2.own_lt hk
    clear hb3 hS2 hB2 hG2 hR3 hg2 hh3
    go_wp2
    go_loopw [5] (fun i wr => ∃ (k : Nat) (y : PS), k ≤ n ∧ i = .int .i64 k ∧ Hid (GP wr g c b y) ∧ Hid (RP wr h d q y) ∧ Hid y.Ok ∧ Hid (RowOf wr a n 2 F) ∧ Hid (Below w.heap.size w wr)) (fun i _ => n - (intOf i).toNat)
    case atStart => exact ⟨0, PS.new, Nat.zero_le _, rfl, HG3, HR3, Lib.hid PS.new_ok, HS3, HB3⟩
    case round =>
      clear HG3 HR3 HS3 HB3
      obtain ⟨k, y, hk, rfl, HG, HR, HY, HRW, HB⟩ := hrel
      by_cases hlt : k < n
      · obtain ⟨b2, off2, rfl, hbl, hcl⟩ := HRW.out k hlt
        obtain ⟨x0, x1, hF, hx0, hx1⟩ := HS.out.2 k hlt
        rw [hF] at hcl
        have c0 : wr.cell? ⟨b2, off2 + k * 2, none⟩ = some (.int .u8 (x0 : Int)) := hcl 0 _ rfl
        have c1 : wr.cell? ⟨b2, off2 + k * 2 + 1, none⟩ = some (.int .u8 (x1 : Int)) := hcl 1 _ rfl
        have hbw := hlt1 b2 off2 rfl (by omega)
        have hk0 : (0 : Int) ≤ (k : Int) := by omega
        have hkn : (k : Int) < (n : Int) := by omega
        have HCL := Lib.hid hcl
        clear hcl
        go_wp2_with fail
        refine region_drew_tail 12 (by kernel_rfl) (by kernel_rfl) ?_
        simp only [List.take_succ_cons, List.take_zero, List.drop_succ_cons, List.drop_zero]
        repeat (go_big_quiet_step ((fail)))
        refine wpQuiet_nil ?_
        intro _ hw'
        obtain ⟨nq, rfl⟩ := hw'
        go_wp2_with fail
        refine (Write_P x0 x1 g c b y _ (HG.out.drewN nq) HY.out hx1 hx0).mono ?_
        rintro e w4 ⟨rfl, hG4, hU4⟩
        have hU4' : Upd (OwnP g c b) wr w4 := ((Upd.refl (OwnP g c b) wr).drewN nq).trans hU4 fun _ _ h => h
        have hgn : ∀ k, OwnP h d q k → ¬ OwnP g c b k := fun k h1 h2 => by have := HHE.out k h1; have := HGL.out k h2; omega
        have hR4 := HR.out.upd hU4' hgn
        have hb2g : ¬ OwnP g c b b2 := fun h1 => by have := HGE.out b2 h1; omega
        have hcl4 := HCL.out.upd hU4' hbl hb2g
        have hR4w := HRW.out.upd hU4' (fun b' off h1 _ => by injection h1 with h1; injection h1 with h1; subst h1; exact hb2g)
        have hB4 := hU4'.to HB.out HB.out.size (fun k h1 => by have := HGE.out k h1; omega)
        have hbl4 : b2 < w4.heap.size := Nat.lt_of_lt_of_le hbl hU4'.size
        clear c0 c1 HG HR HRW HB HCL hU4 hU4'
        have c0 : w4.cell? ⟨b2, off2 + k * 2, none⟩ = some (.int .u8 (x0 : Int)) := hcl4 0 _ rfl
        have c1 : w4.cell? ⟨b2, off2 + k * 2 + 1, none⟩ = some (.int .u8 (x1 : Int)) := hcl4 1 _ rfl
        have HG4 := Lib.hid hG4
        have HR4 := Lib.hid hR4
        have HRW4 := Lib.hid hR4w
        have HB4 := Lib.hid hB4
        clear hG4 hR4 hR4w hB4 hcl4
        go_wp2_with fail
        refine region_drew_tail 12 (by kernel_rfl) (by kernel_rfl) ?_
        simp only [List.take_succ_cons, List.take_zero, List.drop_succ_cons, List.drop_zero]
        repeat (go_big_quiet_step ((fail)))
        refine wpQuiet_nil ?_
        intro _ hw'
        obtain ⟨nq, rfl⟩ := hw'
        go_wp2_with fail
        have hR4d : RP (w4.drewN nq) h d q y := HR4.out.upd ((Upd.refl (fun _ => False) w4).drewN nq) (fun _ _ h => h)
        refine (RWrite_P x0 x1 h d q y _ hR4d HY.out hx1 hx0).mono ?_
        rintro e w5 ⟨rfl, hR5, hU5⟩
        have hU5' : Upd (OwnP h d q) w4 w5 := ((Upd.refl (OwnP h d q) w4).drewN nq).trans hU5 fun _ _ h => h
        have HG5 := Lib.hid (HG4.out.upd hU5' (fun k h1 h2 => hgn k h2 h1))
        have HR5 := Lib.hid hR5
        have hb2h : ¬ OwnP h d q b2 := fun h1 => by have := HHE.out b2 h1; omega
        have HRW5 := Lib.hid (HRW4.out.upd hU5' (fun b' off h1 _ => by injection h1 with h1; injection h1 with h1; subst h1; exact hb2h))
        have HB5 := Lib.hid (hU5'.to HB4.out HB4.out.size (fun k h1 => by have := HHE.out k h1; omega))
        have HY5 := Lib.hid (PS.wr_ok HY.out x0 hx1)
        clear hU5 hU5' hR5 HG4 HR4 HRW4 HB4 c0 c1 hR4d
        go_wp2
        go_roundw
        case rel => exact ⟨k + 1, _, by omega, by go_num, HG5, HR5, HY5, HRW5, HB5⟩
        case measure => simp [intOf]; omega
      · obtain rfl : k = n := by omega
        go_wp2_with fail
        refine (Of_P g c b y wr HG.out HY.out).mono ?_
        rintro e w4 ⟨rfl, hb4⟩
        have HR4 := Lib.hid (HR.out.below hb4)
        have HB4 := Lib.hid (step_below HB.out hb4)
        clear hb4 HG HR HB HRW
        go_wp2_with fail
        go_loopw [8, 9, 10] (fun u v i wr => ∃ k : Nat, k ≤ 6 ∧ i = .int .i64 k ∧ Hid (u = .int .i64 (sumZ (heard y.vo fun v => v.l (y.mn / 16)) k)) ∧ Hid (v = .int .i64 (sumZ (heard y.vo fun v => v.r (y.mn % 16)) k)) ∧ Hid (RP wr h d q y) ∧ Hid (Below w.heap.size w wr)) (fun _ _ i _ => 6 - (intOf i).toNat)
        case atStart => exact ⟨0, by omega, rfl, Lib.hid rfl, Lib.hid rfl, HR4, HB4⟩
        case round =>
          clear HR4 HB4
          obtain ⟨k, hk, rfl, HU, HV, HR, HB⟩ := hrel
          obtain rfl := HU.out
          obtain rfl := HV.out
          clear HU HV
          by_cases hlt : k < 6
          · have hbd1 := sumZ_bd (heard y.vo fun v => v.l (y.mn / 16)) k fun i _ => by
              unfold heard
              split
              · exact sideZ_bd _ _ _ _
              · omega
            have hbd2 := sumZ_bd (heard y.vo fun v => v.r (y.mn % 16)) k fun i _ => by
              unfold heard
              split
              · exact sideZ_bd _ _ _ _
              · omega
            have HS1 : Hid (sumZ (heard y.vo fun v => v.l (y.mn / 16)) (k + 1) = sumZ (heard y.vo fun v => v.l (y.mn / 16)) k + (if kept (y.vo k) then (y.vo k).l (y.mn / 16) else 0)) := Lib.hid rfl
            have HS2 : Hid (sumZ (heard y.vo fun v => v.r (y.mn % 16)) (k + 1) = sumZ (heard y.vo fun v => v.r (y.mn % 16)) k + (if kept (y.vo k) then (y.vo k).r (y.mn % 16) else 0)) := Lib.hid rfl
            generalize hs1 : sumZ (heard y.vo fun v => v.l (y.mn / 16)) k = sm1 at *
            generalize hs2 : sumZ (heard y.vo fun v => v.r (y.mn % 16)) k = sm2 at *
            clear hs1 hs2
            have hvo := RVoice_P k h d q y wr HR.out HY.out hlt
            have hvok := PS.vo_ok HY.out k hlt
            have hmn := HY.out.mn
            generalize hvv : y.vo k = vk at *
            obtain ⟨lv, vo, le, ri⟩ := vk
            obtain ⟨o1, o2, o3, o4⟩ := hvok
            rw [show (Vo.mk lv vo le ri).cs.toArray = #[.int .u8 (lv : Int), .int .u8 (vo : Int), .int .u8 (le : Int), .int .u8 (ri : Int)] from rfl] at hvo
            replace HS1 : Hid (sumZ (heard y.vo fun v => v.l (y.mn / 16)) (k + 1) = sm1 + (if kept ⟨lv, vo, le, ri⟩ then sideZ lv vo le (y.mn / 16) else 0)) := HS1
            replace HS2 : Hid (sumZ (heard y.vo fun v => v.r (y.mn % 16)) (k + 1) = sm2 + (if kept ⟨lv, vo, le, ri⟩ then sideZ lv vo ri (y.mn % 16) else 0)) := HS2
            have HVV := Lib.hid hvv
            clear hvv
            by_cases hkp : kept ⟨lv, vo, le, ri⟩ = true
            · rw [if_pos hkp] at HS1 HS2
              have h3 : (((vo : Int) == 0) = false) ∨ (((vo : Int) == 0) = true ∧ ((le : Int) == 0) = false) ∨ (((vo : Int) == 0) = true ∧ ((le : Int) == 0) = true ∧ ((ri : Int) == 0) = false) := by
                unfold kept at hkp
                simp only [Bool.or_eq_true, decide_eq_true_eq] at hkp
                simp only [beq_iff_eq, beq_eq_false_iff_ne]
                omega
              have HKP := Lib.hid hkp
              clear hkp
              have m1 : (y.mn : Int).tdiv 16 = ((y.mn / 16 : Nat) : Int) := by rw [Int.tdiv_eq_ediv_of_nonneg (by omega)]; rfl
              have m2 : (y.mn : Int).tmod 16 = ((y.mn % 16 : Nat) : Int) := by rw [Int.tmod_eq_emod_of_nonneg (by omega)]; rfl
              have n1 : y.mn / 16 < 256 := by omega
              have n2 : y.mn % 16 < 256 := by omega
              have z1 := sideZ_bd lv vo le (y.mn / 16)
              have z2 := sideZ_bd lv vo ri (y.mn % 16)
              obtain ⟨ml, hml⟩ : ∃ x, x = y.mn / 16 := ⟨_, rfl⟩
              obtain ⟨mr, hmr⟩ : ∃ x, x = y.mn % 16 := ⟨_, rfl⟩
              rw [← hml] at m1 n1 z1 HS1
              rw [← hmr] at m2 n2 z2 HS2
              have HML := Lib.hid hml
              have HMR := Lib.hid hmr
              clear hml hmr
              rcases h3 with q1 | ⟨q1, q2⟩ | ⟨q1, q2, q3⟩
              all_goals
                go_wp2_with fail
                refine hvo.mono ?_
                rintro e w5 ⟨rfl, hb5⟩
                have hR5 := HR.out.below hb5
                have hB5 := step_below HB.out hb5
                go_wp2_with fail
                refine allocs1 ?_
                intro w6 hA6 hb6 _
                have hR6 := hR5.below hb6
                have hB6 := step_below hB5 hb6
                clear hb5 hb6 hvo hR5 hB5 HR HB
                have a0 := hA6.regrown 0 rfl
                have a1 := hA6.regrown 1 rfl
                have a2 := hA6.regrown 2 rfl
                have a7 := hR6.g.regrown 7 (v := .int .u8 (y.mn : Int)) rfl
                have k1 := fun d os => Calls.regrown_of (Side_any lv vo le ml (grow (redrawn w6 d) os) o1 o2 o3 n1)
                generalize sideZ lv vo le ml = sd1 at *
                refine wp_region_quiet_below (by kernel_rfl) (by kernel_rfl) ?_
                repeat (go_big_quiet_step (first | (go_at_call 29; with_reducible exact k1 _ _)))
                refine wpQuiet_nil ?_
                intro w7 hw'
                have hb7 := below_of_regrown hw'
                have hA7 := hA6.below hb7 hA6.lt
                have hR7 := hR6.below hb7
                have hB7 := step_below hB6 hb7
                clear hw' hb7 a0 a1 a2 a7 k1 hA6 hR6 hB6
                have a0 := hA7.regrown 0 rfl
                have a1 := hA7.regrown 1 rfl
                have a3 := hA7.regrown 3 rfl
                have a7 := hR7.g.regrown 7 (v := .int .u8 (y.mn : Int)) rfl
                have k2 := fun d os => Calls.regrown_of (Side_any lv vo ri mr (grow (redrawn w7 d) os) o1 o2 o4 n2)
                generalize sideZ lv vo ri mr = sd2 at *
                go_wp2_with fail
                refine wp_region_quiet_below (by kernel_rfl) (by kernel_rfl) ?_
                repeat (go_big_quiet_step (first | (go_at_call 29; with_reducible exact k2 _ _)))
                refine wpQuiet_nil ?_
                intro w8 hw'
                have hb8 := below_of_regrown hw'
                have HR8 := Lib.hid (hR7.below hb8)
                have HB8 := Lib.hid (step_below hB7 hb8)
                clear hw' hb8 a0 a1 a3 a7 k2 hA7 hR7 hB7
                go_wp2
                go_roundw
                case rel => exact ⟨k + 1, by omega, by go_num, Lib.hid (by rw [← HML.out, HS1.out]), Lib.hid (by rw [← HMR.out, HS2.out]), HR8, HB8⟩
                case measure => simp [intOf]; omega
            · rw [if_neg hkp, Int.add_zero] at HS1 HS2
              have h3 : ((vo : Int) == 0) = true ∧ ((le : Int) == 0) = true ∧ ((ri : Int) == 0) = true := by
                unfold kept at hkp
                simp only [Bool.or_eq_true, decide_eq_true_eq] at hkp
                simp only [beq_iff_eq]
                omega
              obtain ⟨q1, q2, q3⟩ := h3
              clear hkp
              go_wp2_with fail
              refine hvo.mono ?_
              rintro e w5 ⟨rfl, hb5⟩
              have HR5 := Lib.hid (HR.out.below hb5)
              have HB5 := Lib.hid (step_below HB.out hb5)
              clear hb5 hvo HR HB
              have hbn : Below w5.heap.size w5 (w5.alloc (.cells #[.int .u8 (lv : Int), .int .u8 (vo : Int), .int .u8 (le : Int), .int .u8 (ri : Int)] 42)) := (Below.refl _ w5).alloc (Nat.le_refl _) _
              have HR6 := Lib.hid (HR5.out.below hbn)
              have HB6 := Lib.hid (step_below HB5.out hbn)
              clear hbn HR5 HB5
              go_wp2
              go_roundw
              case rel => exact ⟨k + 1, by omega, by go_num, Lib.hid (by rw [HS1.out]), Lib.hid (by rw [HS2.out]), HR6, HB6⟩
              case measure => simp [intOf]; omega
          · obtain rfl : k = 6 := by omega
            have HL : Hid (y.left = sumZ (heard y.vo fun v => v.l (y.mn / 16)) 6) := Lib.hid rfl
            have HRR : Hid (y.right = sumZ (heard y.vo fun v => v.r (y.mn % 16)) 6) := Lib.hid rfl
            generalize hs1 : sumZ (heard y.vo fun v => v.l (y.mn / 16)) 6 = sm1 at *
            generalize hs2 : sumZ (heard y.vo fun v => v.r (y.mn % 16)) 6 = sm2 at *
            clear hs1 hs2
            rw [HL.out, HRR.out]
            go_wp2
            go_ret
            exact ⟨rfl, HB.out⟩
end Go.Proofs.Ytgkbpdcedighcac
