/-
  The walk of the law MixSums.
-/
import Derived.Test.YtgkbpdcedighcacMixL
import Derived.Test.YtgkbpdcedighcacVoiceA
import Derived.Test.YtgkbpdcedighcacRMixS
namespace Go.Proofs.Ytgkbpdcedighcac
open Go.RowKit Go.Sort

theorem side_l (V : Nat → Vo) (m n : Nat) : sumZ (fun i => (V i).side false m) n = sumZ (fun i => (V i).l m) n := rfl
theorem side_r (V : Nat → Vo) (m n : Nat) : sumZ (fun i => (V i).side true m) n = sumZ (fun i => (V i).r m) n := rfl

set_option maxRecDepth 100000 in
set_option maxHeartbeats 8000000 in
theorem MixSums_walk (w : World) (a : Option Addr) (n cap : Nat) (F : Nat → List Value) (s : SlR w a n cap 4 IsVoice F) (l0 : Int) (hl0 : (Lit.int .u8 l0).wf = true) (r0 : Int) (hr0 : (Lit.int .u8 r0).wf = true) :
    Calls Try.prog 4 #[.slice a n cap, .int .u8 l0, .int .u8 r0] w fun e w' => e = .returned (.bool true) ∧ Below w.heap.size w w' := by
  obtain ⟨l, rfl⟩ : ∃ v : Nat, l0 = v := ⟨l0.toNat, by have := wf_bounds_u8 hl0; omega⟩
  obtain ⟨r, rfl⟩ : ∃ v : Nat, r0 = v := ⟨r0.toNat, by have := wf_bounds_u8 hr0; omega⟩
  have hl : l < 256 := by have := wf_bounds_u8 hl0; omega
  have hr : r < 256 := by have := wf_bounds_u8 hr0; omega
  have hm := s.max
  have hle := s.le
  unfold maxLen at hm
  obtain ⟨V, hV⟩ := vos_of s
  have HV := Lib.hid hV
  clear s hl0 hr0 hV
  by_cases hlong : 300 < n
  · have hd : decide (300 < (n : Int)) = true := by rw [decide_eq_true_eq]; omega
    go_enter Try.func4, Try.ntmps4
    go_wp2_with fail
    refine (live16_any w).mono ?_
    rintro e w1 ⟨rfl, hB1⟩
    go_wp2
    go_ret
    exact ⟨rfl, hB1⟩
  · have hd : decide (300 < (n : Int)) = false := by rw [decide_eq_false_iff_not]; omega
    have b1 := sumZ_bd (fun i => (V i).l l) n fun i _ => sideZ_bd _ _ _ _
    have b2 := sumZ_bd (fun i => (V i).r r) n fun i _ => sideZ_bd _ _ _ _
    have k1 := fun w0 (h : Vos w0 a n V) => All_any l r a n cap V w0 h hl hr (by omega)
    have k2 := fun w0 (h : Vos w0 a n V) => sum_any a n cap V l false w0 h hl (by omega)
    have k3 := fun w0 (h : Vos w0 a n V) => sum_any a n cap V r true w0 h hr (by omega)
    simp only [side_l] at k2
    simp only [side_r] at k3
    generalize sumZ (fun i => (V i).l l) n = m1 at *
    generalize sumZ (fun i => (V i).r r) n = m2 at *
    go_enter Try.func4, Try.ntmps4
    go_wp2_with fail
    refine (live16_any w).mono ?_
    rintro e w1 ⟨rfl, hB1⟩
    have hV1 := HV.out.below hB1
    go_wp2_with fail
    refine (k1 w1 hV1).mono ?_
    rintro e w2 ⟨rfl, hb2⟩
    have hV2 := hV1.below hb2
    have hB2 := step_below hB1 hb2
    clear hb2 hB1 HV hV1 k1
    go_wp2_with fail
    refine (k2 w2 hV2).mono ?_
    rintro e w3 ⟨rfl, hb3⟩
    have hV3 := hV2.below hb3
    have hB3 := step_below hB2 hb3
    clear hb3 hV2 hB2 k2
    go_wp2_with fail
    refine (k3 w3 hV3).mono ?_
    rintro e w4 ⟨rfl, hb4⟩
    have HV4 := Lib.hid (hV3.below hb4)
    have HB4 := Lib.hid (step_below hB3 hb4)
    clear hb4 hV3 hB3 k3 b1 b2
    go_wp2_with fail
    go_loopw [9] (fun i wr => ∃ k : Nat, k ≤ n ∧ i = .int .i64 k ∧ Hid (Vos wr a n V) ∧ Hid (Below w.heap.size w wr)) (fun i _ => n - (intOf i).toNat)
    case atStart => exact ⟨0, Nat.zero_le _, rfl, HV4, HB4⟩
    case round =>
      clear HV4 HB4
      obtain ⟨k, hk, rfl, HV, HB⟩ := hrel
      by_cases hlt : k < n
      · obtain ⟨b2, off2, rfl, hbl, hcl⟩ := HV.out.1 k hlt
        have hok := HV.out.2 k hlt
        replace hcl : CellsAt wr b2 (off2 + k * 4) (V k).cs := hcl
        have b1 := sideZ_bd (V k).lv (V k).vo (V k).le l
        have b2' := sideZ_bd (V k).lv (V k).vo (V k).ri r
        have HONE : Hid (∀ w0, Below wr.heap.size wr w0 → Vos w0 (some ⟨b2, off2 + k * 4, none⟩) 1 (fun _ => V k)) := Lib.hid fun w0 hb => ⟨fun i hi => ⟨b2, off2 + k * 4, rfl, Nat.lt_of_lt_of_le hbl hb.size, by
          obtain rfl : i = 0 := by omega
          exact hcl.below hb hbl⟩, fun _ _ => hok⟩
        have k1 := fun w0 => One_any (V k) l r w0 hok hl hr
        have k2 := fun w0 hb => sum_any (some ⟨b2, off2 + k * 4, none⟩) 1 (cap - k) (fun _ => V k) l false w0 (HONE.out w0 hb) hl (by omega)
        have k3 := fun w0 hb => sum_any (some ⟨b2, off2 + k * 4, none⟩) 1 (cap - k) (fun _ => V k) r true w0 (HONE.out w0 hb) hr (by omega)
        have e1 : sumZ (fun i => ((fun _ => V k) i : Vo).side false l) 1 = (V k).l l := by simp [sumZ, Vo.side]
        have e2 : sumZ (fun i => ((fun _ => V k) i : Vo).side true r) 1 = (V k).r r := by simp [sumZ, Vo.side]
        rw [e1] at k2
        rw [e2] at k3
        clear e1 e2
        have hcs : (V k).cs.toArray = #[.int .u8 ((V k).lv : Int), .int .u8 ((V k).vo : Int), .int .u8 ((V k).le : Int), .int .u8 ((V k).ri : Int)] := rfl
        rw [hcs] at k1
        replace hcl : CellsAt wr b2 (off2 + k * 4) [.int .u8 ((V k).lv : Int), .int .u8 ((V k).vo : Int), .int .u8 ((V k).le : Int), .int .u8 ((V k).ri : Int)] := hcl
        rw [show sideZ (V k).lv (V k).vo (V k).le l = (V k).l l from rfl] at b1
        rw [show sideZ (V k).lv (V k).vo (V k).ri r = (V k).r r from rfl] at b2'
        generalize (V k).l l = m1 at *
        generalize (V k).r r = m2 at *
        generalize (V k).lv = lv at *
        generalize (V k).vo = vo at *
        generalize (V k).le = le at *
        generalize (V k).ri = ri at *
        clear hcs hok
        go_wp2_with (with_reducible refine wpList_load_cells (by kernel_rfl) 32 (.tmp 45) rfl b2 (off2 + k * 4) rfl _ hcl _ Try.underlying32 rfl (by kernel_rfl) ?_)
        refine (k1 wr).mono ?_
        rintro e w5 ⟨rfl, hb5⟩
        go_wp2_with fail
        refine (k2 w5 hb5).mono ?_
        rintro e w6 ⟨rfl, hb6⟩
        have hb56 := step_below hb5 hb6
        clear hb5 hb6 k1 k2 hcl
        go_wp2_with fail
        refine (k3 w6 hb56).mono ?_
        rintro e w7 ⟨rfl, hb7⟩
        have hb57 := step_below hb56 hb7
        have HV7 := Lib.hid (HV.out.below hb57)
        have HB7 := Lib.hid (step_below HB.out hb57)
        clear hb56 hb7 hb57 k3 HV HB HONE
        go_wp2
        go_roundw
        case rel => exact ⟨k + 1, by omega, by go_num, HV7, HB7⟩
        case measure => simp [intOf]; omega
      · obtain rfl : k = n := by omega
        go_wp2
        go_ret
        exact ⟨rfl, HB.out⟩
end Go.Proofs.Ytgkbpdcedighcac
