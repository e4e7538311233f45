/-
  The walks of the reference 16's Side, the law's sum.
-/
import Derived.Test.YtgkbpdcedighcacRMix
import Derived.Test.YtgkbpdcedighcacMixT
namespace Go.Proofs.Ytgkbpdcedighcac
open Go.RowKit Go.Sort

theorem Side_any (l v b m : Nat) (w : World) (hl : l < 256) (hv : v < 256) (hb : b < 256) (hm : m < 256) : Calls Try.prog 29 #[.int .u8 (l : Int), .int .u8 (v : Int), .int .u8 (b : Int), .int .u8 (m : Int)] w fun e w' => e = .returned (.int .i64 (sideZ l v b m)) ∧ Below w.heap.size w w' := by
  have e1 : (l : Int).tmod 32 = ((l % 32 : Nat) : Int) := by rw [Int.tmod_eq_emod_of_nonneg (by omega)]; rfl
  have HZ : Hid (sideZ l v b m = (2 * ((l % 32 : Nat) : Int) - 31) * powZ (lossZ v b m)) := Lib.hid rfl
  have hs := sideZ_bd l v b m
  rw [HZ.out] at hs
  have h1 : l % 32 < 32 := by omega
  have hp := powZ_bd (lossZ v b m)
  generalize sideZ l v b m = sz at *
  generalize l % 32 = q at *
  go_enter Try.func29, Try.ntmps29
  go_wp2_with fail
  refine (RLoss_any v b m w hv hb hm).mono ?_
  rintro e _ ⟨rfl, rfl⟩
  go_wp2_with fail
  refine (RPower_any (lossZ v b m) w).mono ?_
  rintro e w2 ⟨rfl, hb2⟩
  have hpp := hp
  generalize powZ (lossZ v b m) = p at *
  go_wp2
  go_ret
  exact ⟨by rw [HZ.out]; rfl, hb2⟩

/-- The first n of one side. -/
def Vo.side (v : Vo) (rt : Bool) (m : Nat) : Int := if rt then v.r m else v.l m
theorem Vo.side_bd (v : Vo) (rt : Bool) (m : Nat) : -126976 ≤ v.side rt m ∧ v.side rt m ≤ 126976 := by
  cases rt
  · exact sideZ_bd _ _ _ _
  · exact sideZ_bd _ _ _ _

set_option maxRecDepth 100000 in
set_option maxHeartbeats 4000000 in
theorem sum_any (a : Option Addr) (n cap : Nat) (V : Nat → Vo) (m : Nat) (rt : Bool) (w : World) (hV : Vos w a n V) (hm : m < 256) (hn : n ≤ 1000000) :
    Calls Try.prog 21 #[.slice a n cap, .int .u8 (m : Int), .bool rt] w fun e w' => e = .returned (.int .i64 (sumZ (fun i => (V i).side rt m) n)) ∧ Below w.heap.size w w' := by
  have HV := Lib.hid hV
  clear hV
  go_enter Try.func21, Try.ntmps21
  go_wp2_with fail
  go_loopw [7, 8] (fun v i wr => ∃ k : Nat, k ≤ n ∧ i = .int .i64 k ∧ Hid (v = .int .i64 (sumZ (fun i => (V i).side rt m) k)) ∧ Hid (Vos wr a n V) ∧ Hid (Below w.heap.size w wr)) (fun _ i _ => n - (intOf i).toNat)
  case atStart => exact ⟨0, Nat.zero_le _, rfl, Lib.hid rfl, HV, Lib.hid (Below.refl _ _)⟩
  case round =>
    clear HV
    obtain ⟨k, hk, rfl, HS, HV, HB⟩ := hrel
    obtain rfl := HS.out
    clear HS
    have hbd := sumZ_bd (fun i => (V i).side rt m) k fun i _ => Vo.side_bd _ _ _
    by_cases hlt : k < n
    · obtain ⟨b2, off2, rfl, hbl, hcl⟩ := HV.out.1 k hlt
      have hok := HV.out.2 k hlt
      have HSM : Hid (sumZ (fun i => (V i).side rt m) (k + 1) = sumZ (fun i => (V i).side rt m) k + (V k).side rt m) := Lib.hid rfl
      have hsd := Vo.side_bd (V k) rt m
      replace hcl : CellsAt wr b2 (off2 + k * 4) (V k).cs := hcl
      generalize hvv : V k = vk at *
      obtain ⟨lv, vo, le, ri⟩ := vk
      have c0 : wr.cell? ⟨b2, off2 + k * 4, none⟩ = some (.int .u8 (lv : Int)) := hcl 0 _ rfl
      have c1 : wr.cell? ⟨b2, off2 + k * 4 + 1, none⟩ = some (.int .u8 (vo : Int)) := hcl 1 _ rfl
      have c2 : wr.cell? ⟨b2, off2 + k * 4 + 2, none⟩ = some (.int .u8 (le : Int)) := hcl 2 _ rfl
      have c3 : wr.cell? ⟨b2, off2 + k * 4 + 3, none⟩ = some (.int .u8 (ri : Int)) := hcl 3 _ rfl
      have q0 := fun d os => cell_regrown c0 d os
      have q1 := fun d os => cell_regrown c1 d os
      have hk0 : (0 : Int) ≤ (k : Int) := by omega
      have hkn : (k : Int) < (n : Int) := by omega
      obtain ⟨o1, o2, o3, o4⟩ := hok
      have k1 := fun d os => Calls.regrown_of (Side_any lv vo le m (grow (redrawn wr d) os) o1 o2 o3 hm)
      have k2 := fun d os => Calls.regrown_of (Side_any lv vo ri m (grow (redrawn wr d) os) o1 o2 o4 hm)
      clear hcl hvv
      cases rt
      · replace HSM : Hid (sumZ (fun i => (V i).side false m) (k + 1) = sumZ (fun i => (V i).side false m) k + sideZ lv vo le m) := HSM
        replace hsd : -126976 ≤ sideZ lv vo le m ∧ sideZ lv vo le m ≤ 126976 := hsd
        generalize sumZ (fun i => (V i).side false m) k = sm at *
        generalize sideZ lv vo le m = sd at *
        go_wp2_with fail
        refine wp_region_quiet_below (by kernel_rfl) (by kernel_rfl) ?_
        repeat (go_big_quiet_step (first | (go_at_call 29; with_reducible exact k1 _ _)))
        refine wpQuiet_nil ?_
        intro w3 hw'
        have hb3 := below_of_regrown hw'
        clear hw' c0 c1 c2 c3 q0 q1 k1 k2
        have HV3 := Lib.hid (HV.out.below hb3)
        have HB3 := Lib.hid (step_below HB.out hb3)
        go_wp2
        go_roundw
        case rel => exact ⟨k + 1, by omega, by go_num, Lib.hid (by rw [HSM.out]), HV3, HB3⟩
        case measure => simp [intOf]; omega
      · replace HSM : Hid (sumZ (fun i => (V i).side true m) (k + 1) = sumZ (fun i => (V i).side true m) k + sideZ lv vo ri m) := HSM
        replace hsd : -126976 ≤ sideZ lv vo ri m ∧ sideZ lv vo ri m ≤ 126976 := hsd
        generalize sumZ (fun i => (V i).side true m) k = sm at *
        generalize sideZ lv vo ri m = sd at *
        go_wp2_with fail
        refine wp_region_quiet_below (by kernel_rfl) (by kernel_rfl) ?_
        repeat (go_big_quiet_step (first | (go_at_call 29; with_reducible exact k2 _ _)))
        refine wpQuiet_nil ?_
        intro w3 hw'
        have hb3 := below_of_regrown hw'
        clear hw' c0 c1 c2 c3 q0 q1 k1 k2
        have HV3 := Lib.hid (HV.out.below hb3)
        have HB3 := Lib.hid (step_below HB.out hb3)
        go_wp2
        go_roundw
        case rel => exact ⟨k + 1, by omega, by go_num, Lib.hid (by rw [HSM.out]), HV3, HB3⟩
        case measure => simp [intOf]; omega
    · obtain rfl : k = n := by omega
      clear hbd
      go_wp2
      go_ret
      exact ⟨rfl, HB.out⟩
end Go.Proofs.Ytgkbpdcedighcac
